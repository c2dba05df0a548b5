/- Lemmas for the laws of this seat, laid together of PHh, PHi, PHj, PHk. -/
import Derived.Test.YtimlbbleblijnaaT21

namespace Go.Proofs.Ytimlbbleblijnaa.Co
open Go Go.Conc Go.RowKit
set_option linter.unusedVariables false
set_option linter.unusedSimpArgs false
noncomputable def oT0 : Code := Try.f5.body.getD .skip
noncomputable def oT1 : Code := match oT0 with | .seq _ x => x | _ => .skip
noncomputable def oS0 : Code := match oT0 with | .seq x _ => x | _ => .skip
noncomputable def oT2 : Code := match oT1 with | .seq _ x => x | _ => .skip
noncomputable def oS1 : Code := match oT1 with | .seq x _ => x | _ => .skip
noncomputable def oT3 : Code := match oT2 with | .seq _ x => x | _ => .skip
noncomputable def oS2 : Code := match oT2 with | .seq x _ => x | _ => .skip
noncomputable def oT4 : Code := match oT3 with | .seq _ x => x | _ => .skip
noncomputable def oS3 : Code := match oT3 with | .seq x _ => x | _ => .skip
noncomputable def oT5 : Code := match oT4 with | .seq _ x => x | _ => .skip
noncomputable def oS4 : Code := match oT4 with | .seq x _ => x | _ => .skip
noncomputable def oT6 : Code := match oT5 with | .seq _ x => x | _ => .skip
noncomputable def oS5 : Code := match oT5 with | .seq x _ => x | _ => .skip
noncomputable def oT7 : Code := match oT6 with | .seq _ x => x | _ => .skip
noncomputable def oS6 : Code := match oT6 with | .seq x _ => x | _ => .skip
noncomputable def oT8 : Code := match oT7 with | .seq _ x => x | _ => .skip
noncomputable def oS7 : Code := match oT7 with | .seq x _ => x | _ => .skip
noncomputable def oT9 : Code := match oT8 with | .seq _ x => x | _ => .skip
noncomputable def oS8 : Code := match oT8 with | .seq x _ => x | _ => .skip
noncomputable def oT10 : Code := match oT9 with | .seq _ x => x | _ => .skip
noncomputable def oS9 : Code := match oT9 with | .seq x _ => x | _ => .skip
noncomputable def oT11 : Code := match oT10 with | .seq _ x => x | _ => .skip
noncomputable def oS10 : Code := match oT10 with | .seq x _ => x | _ => .skip
noncomputable def oS11 : Code := match oT11 with | .seq x _ => x | _ => .skip
def isF : FuncId → Bool := fun f => f == 32
theorem closed_is : Closed Try.prog isF := by
  refine ⟨fun f hf => ?_, fun f fn c hf hfn hb => ?_⟩
  · have : f = 32 := by simpa [isF] using hf
    subst this
    exact ⟨Try.f32, Try.func32, by kernel_rfl, .inl (by rfl)⟩
  · have : f = 32 := by simpa [isF] using hf
    subst this
    rw [Try.func32] at hfn
    obtain rfl := Option.some.inj hfn
    have h2 : Try.f32.body = some (Try.f32.body.getD .skip) := by rfl
    rw [h2] at hb
    obtain rfl := Option.some.inj hb
    show quietCode Try.prog isF (Try.f32.body.getD .skip) = true
    kernel_rfl
set_option maxHeartbeats 1000000 in
theorem is_any {x : World} {k : Int} : Calls Try.prog 32 #[.int .i64 k] x fun e x' => e = .returned (.bool (isC k)) ∧ x' = x := by
  unfold isC
  by_cases h1 : 1 ≤ k
  · have q1 : decide (1 ≤ k) = true := decide_eq_true h1
    by_cases h4 : k ≤ 4
    · have q4 : decide (k ≤ 4) = true := decide_eq_true h4
      rw [q1, q4]
      go_enter Try.func32, Try.ntmps32
      go_wp2
      go_ret
      refine ⟨?_, rfl⟩
      rfl
    · have q4 : decide (k ≤ 4) = false := decide_eq_false h4
      rw [q1, q4]
      go_enter Try.func32, Try.ntmps32
      go_wp2
      go_ret
      refine ⟨?_, rfl⟩
      rfl
  · have q1 : decide (1 ≤ k) = false := decide_eq_false h1
    rw [q1, Bool.false_and]
    go_enter Try.func32, Try.ntmps32
    go_wp2
    go_ret
    refine ⟨?_, rfl⟩
    rfl
def cntC (ops : List Op3) (n : Nat) : Nat := ((ops.take n).filter (fun o => isC o.1)).length
theorem cntC_succ {ops : List Op3} {i : Nat} {op : Op3} (h : ops[i]? = some op) : cntC ops (i + 1) = cntC ops i + (if isC op.1 then 1 else 0) := by
  unfold cntC
  rw [List.take_add_one, h]
  simp only [Option.toList_some, List.filter_append, List.length_append]
  cases e : isC op.1 <;> simp [e]
theorem cntC_le (ops : List Op3) (n : Nat) : cntC ops n ≤ n := by
  unfold cntC
  refine Nat.le_trans (List.length_filter_le _ _) ?_
  rw [List.length_take]
  omega
section
variable {x : World} {Q : Exit → Act → World → Prop}
set_option maxRecDepth 100000 in
set_option maxHeartbeats 4000000 in
theorem oS0_wp {T : Array Value} {v : Value} (hs : T.size = 56) (h0 : T[0]? = some v) (hv : ∃ A n cap, v = .slice A n cap)
    (hQ : ∀ T' x', T'.size = 56 → T'[1]? = some (.pointer (some ⟨x.heap.size, 0, none⟩)) → x'.heap = x.heap.push (.cells #[v] 32) → Q .normal ⟨T', []⟩ x') : oS0.wp Try.prog Q ⟨T, []⟩ x := by
  obtain ⟨f, hf, fz⟩ := arrfv T hs
  have e0 := fz 0 _ h0
  have hj : ∀ j, j < 13 → T[j]? = some (f j) := fun j hj => by rw [hf]; exact arrf_get f (by omega)
  subst hf
  clear fz hs h0
  replace hj := Lib.hid hj
  replace hQ := Lib.hid hQ
  simp only [List.range, List.range.loop, List.map_cons, List.map_nil, e0]
  simp only [oS0, oT0, Try.f5, Option.getD_some]
  obtain ⟨A, n, cap, rfl⟩ := hv
  go_wp2_with fail
  exact hQ.out _ _ (by simp) (by simp) rfl
set_option maxRecDepth 100000 in
set_option maxHeartbeats 4000000 in
theorem oS2_wp {T : Array Value}  (hs : T.size = 56)
    (hQ : ∀ T' x', T'.size = 56 → (∀ j, j < 13 → j ≠ 4 → T'[j]? = T[j]?) → T'[4]? = some (.pointer (some ⟨x.heap.size, 0, none⟩)) → x'.heap = x.heap.push (.cells #[.int .i64 0] 46) → Q .normal ⟨T', []⟩ x') : oS2.wp Try.prog Q ⟨T, []⟩ x := by
  obtain ⟨f, hf, fz⟩ := arrfv T hs
  have hj : ∀ j, j < 13 → T[j]? = some (f j) := fun j hj => by rw [hf]; exact arrf_get f (by omega)
  subst hf
  clear fz hs
  replace hj := Lib.hid hj
  replace hQ := Lib.hid hQ
  simp only [List.range, List.range.loop, List.map_cons, List.map_nil]
  simp only [oS2, oT2, oT1, oT0, Try.f5, Option.getD_some]
  go_wp2_with fail
  exact hQ.out _ _ (by simp) (fun j hj' n4 => by
    rw [hj.out j hj']
    match j, hj' with
    | 0, _ | 1, _ | 2, _ | 3, _ | 5, _ | 6, _ | 7, _ | 8, _ | 9, _ | 10, _ | 11, _ | 12, _ => simp
    | 4, _ => exact absurd rfl n4
    | j + 13, h => exact absurd h (by omega)) (by simp) rfl
set_option maxRecDepth 100000 in
set_option maxHeartbeats 4000000 in
theorem oS5_wp {T : Array Value}  (hs : T.size = 56)
    (hQ : ∀ T' x', T'.size = 56 → (∀ j, j < 13 → j ≠ 6 → T'[j]? = T[j]?) → T'[6]? = some (.pointer (some ⟨x.heap.size, 0, none⟩)) → (∀ b, b < x.heap.size → x'.heap[b]? = x.heap[b]?) → x'.heap[x.heap.size]? = some (.cells #[.bool false] 4) → Q .normal ⟨T', []⟩ x') : oS5.wp Try.prog Q ⟨T, []⟩ x := by
  obtain ⟨f, hf, fz⟩ := arrfv T hs
  have hj : ∀ j, j < 13 → T[j]? = some (f j) := fun j hj => by rw [hf]; exact arrf_get f (by omega)
  subst hf
  clear fz hs
  replace hj := Lib.hid hj
  replace hQ := Lib.hid hQ
  simp only [List.range, List.range.loop, List.map_cons, List.map_nil]
  simp only [oS5, oT5, oT4, oT3, oT2, oT1, oT0, Try.f5, Option.getD_some]
  go_wp2_with fail
  refine hQ.out _ _ (by simp) (fun j hj' n6 => by
    rw [hj.out j hj']
    match j, hj' with
    | 0, _ | 1, _ | 2, _ | 3, _ | 4, _ | 5, _ | 7, _ | 8, _ | 9, _ | 10, _ | 11, _ | 12, _ => simp
    | 6, _ => exact absurd rfl n6
    | j + 13, h => exact absurd h (by omega)) (by simp) (fun b hb => ?_) ?_
  · first
      | exact (heap_setCell_ne (a := ⟨x.heap.size, 0, none⟩) (by show x.heap.size ≠ b; omega)).trans (alloc_old hb)
      | exact alloc_old hb
  · first
      | exact heap_set (a := ⟨x.heap.size, 0, none⟩) (w := x.alloc (.cells #[.bool false] 4)) rfl alloc_new
      | exact alloc_new
set_option maxRecDepth 100000 in
set_option maxHeartbeats 4000000 in
theorem oS6_wp {T : Array Value}  (hs : T.size = 56)
    (hQ : ∀ T' x', T'.size = 56 → (∀ j, j < 13 → j ≠ 7 → T'[j]? = T[j]?) → T'[7]? = some (.pointer (some ⟨x.heap.size, 0, none⟩)) → (∀ b, b < x.heap.size → x'.heap[b]? = x.heap[b]?) → x'.heap[x.heap.size]? = some (.cells #[.int .i64 0] 3) → Q .normal ⟨T', []⟩ x') : oS6.wp Try.prog Q ⟨T, []⟩ x := by
  obtain ⟨f, hf, fz⟩ := arrfv T hs
  have hj : ∀ j, j < 13 → T[j]? = some (f j) := fun j hj => by rw [hf]; exact arrf_get f (by omega)
  subst hf
  clear fz hs
  replace hj := Lib.hid hj
  replace hQ := Lib.hid hQ
  simp only [List.range, List.range.loop, List.map_cons, List.map_nil]
  simp only [oS6, oT6, oT5, oT4, oT3, oT2, oT1, oT0, Try.f5, Option.getD_some]
  go_wp2_with fail
  refine hQ.out _ _ (by simp) (fun j hj' n7 => by
    rw [hj.out j hj']
    match j, hj' with
    | 0, _ | 1, _ | 2, _ | 3, _ | 4, _ | 5, _ | 6, _ | 8, _ | 9, _ | 10, _ | 11, _ | 12, _ => simp
    | 7, _ => exact absurd rfl n7
    | j + 13, h => exact absurd h (by omega)) (by simp) (fun b hb => ?_) ?_
  · first
      | exact (heap_setCell_ne (a := ⟨x.heap.size, 0, none⟩) (by show x.heap.size ≠ b; omega)).trans (alloc_old hb)
      | exact alloc_old hb
  · first
      | exact heap_set (a := ⟨x.heap.size, 0, none⟩) (w := x.alloc (.cells #[.int .i64 0] 3)) rfl alloc_new
      | exact alloc_new
set_option maxRecDepth 100000 in
set_option maxHeartbeats 4000000 in
theorem oS7_wp {T : Array Value}  (hs : T.size = 56)
    (hQ : ∀ T' x', T'.size = 56 → (∀ j, j < 13 → j ≠ 8 → T'[j]? = T[j]?) → T'[8]? = some (.pointer (some ⟨x.heap.size + 1, 0, none⟩)) → (∀ b, b < x.heap.size → x'.heap[b]? = x.heap[b]?) → x'.heap[x.heap.size]? = some (.cells #[.int .i64 0] 46) → x'.heap[x.heap.size + 1]? = some (.cells #[.pointer (some ⟨x.heap.size, 0, none⟩)] 39) → Q .normal ⟨T', []⟩ x') : oS7.wp Try.prog Q ⟨T, []⟩ x := by
  obtain ⟨f, hf, fz⟩ := arrfv T hs
  have hj : ∀ j, j < 13 → T[j]? = some (f j) := fun j hj => by rw [hf]; exact arrf_get f (by omega)
  subst hf
  clear fz hs
  replace hj := Lib.hid hj
  replace hQ := Lib.hid hQ
  simp only [List.range, List.range.loop, List.map_cons, List.map_nil]
  simp only [oS7, oT7, oT6, oT5, oT4, oT3, oT2, oT1, oT0, Try.f5, Option.getD_some]
  go_wp2_with fail
  refine hQ.out _ _ (by simp) (fun j hj' n8 => by
    rw [hj.out j hj']
    match j, hj' with
    | 0, _ | 1, _ | 2, _ | 3, _ | 4, _ | 5, _ | 6, _ | 7, _ | 9, _ | 10, _ | 11, _ | 12, _ => simp
    | 8, _ => exact absurd rfl n8
    | j + 13, h => exact absurd h (by omega)) (by simp) (fun b hb => ?_) ?_ ?_
  · exact (alloc_old (by rw [alloc_size]; omega)).trans (alloc_old hb)
  · exact (alloc_old (by rw [alloc_size]; omega)).trans alloc_new
  · have h := alloc_new (w := x.alloc (.cells #[.int .i64 0] 46)) (o := .cells #[.pointer (some ⟨x.heap.size, 0, none⟩)] 39)
    rw [alloc_size] at h
    exact h
set_option maxRecDepth 100000 in
set_option maxHeartbeats 4000000 in
theorem oS9_wp {T : Array Value}  (hs : T.size = 56)
    (hQ : ∀ T', T'.size = 56 → (∀ j, j < 13 → j ≠ 10 → T'[j]? = T[j]?) → T'[10]? = some (.int .i64 0) → Q .normal ⟨T', []⟩ x) : oS9.wp Try.prog Q ⟨T, []⟩ x := by
  obtain ⟨f, hf, fz⟩ := arrfv T hs
  have hj : ∀ j, j < 13 → T[j]? = some (f j) := fun j hj => by rw [hf]; exact arrf_get f (by omega)
  subst hf
  clear fz hs
  replace hj := Lib.hid hj
  replace hQ := Lib.hid hQ
  simp only [List.range, List.range.loop, List.map_cons, List.map_nil]
  simp only [oS9, oT9, oT8, oT7, oT6, oT5, oT4, oT3, oT2, oT1, oT0, Try.f5, Option.getD_some]
  go_wp2_with fail
  exact hQ.out _ (by simp) (fun j hj' n10 => by
    rw [hj.out j hj']
    match j, hj' with
    | 0, _ | 1, _ | 2, _ | 3, _ | 4, _ | 5, _ | 6, _ | 7, _ | 8, _ | 9, _ | 11, _ | 12, _ => simp
    | 10, _ => exact absurd rfl n10
    | j + 13, h => exact absurd h (by omega)) (by simp)
set_option maxRecDepth 100000 in
set_option maxHeartbeats 4000000 in
theorem oS11_wp {T : Array Value} {okb stb : Nat} {c : Int} (hs : T.size = 56) (h6 : T[6]? = some (.pointer (some ⟨okb, 0, none⟩))) (h7 : T[7]? = some (.pointer (some ⟨stb, 0, none⟩))) (h9 : T[9]? = some (.int .i64 c)) (h10 : T[10]? = some (.int .i64 c)) (c1 : x.cell? ⟨okb, 0, none⟩ = some (.bool true)) (c2 : x.cell? ⟨stb, 0, none⟩ = some (.int .i64 c))
    (hQ : ∀ T', T'.size = 56 → T'[2]? = some (.bool true) → Q .normal ⟨T', []⟩ x) : oS11.wp Try.prog Q ⟨T, []⟩ x := by
  obtain ⟨f, hf, fz⟩ := arrfv T hs
  have e6 := fz 6 _ h6
  have e7 := fz 7 _ h7
  have e9 := fz 9 _ h9
  have e10 := fz 10 _ h10
  have hj : ∀ j, j < 13 → T[j]? = some (f j) := fun j hj => by rw [hf]; exact arrf_get f (by omega)
  subst hf
  clear fz hs h6 h7 h9 h10
  replace hj := Lib.hid hj
  replace hQ := Lib.hid hQ
  simp only [List.range, List.range.loop, List.map_cons, List.map_nil, e6, e7, e9, e10]
  simp only [oS11, oT11, oT10, oT9, oT8, oT7, oT6, oT5, oT4, oT3, oT2, oT1, oT0, Try.f5, Option.getD_some]
  go_wp2
  exact hQ.out _ (by simp) (by simp)
set_option maxRecDepth 100000 in
set_option maxHeartbeats 4000000 in
theorem oS10_wp {T : Array Value} {ops : List Op3} {A : Option Addr} {la lo cap lbb : Nat} (hs : T.size = 56) (h1 : T[1]? = some (.pointer (some ⟨lbb, 0, none⟩))) (h10 : T[10]? = some (.int .i64 0)) (hA : 0 < ops.length → A = some ⟨la, lo, none⟩) (cl : x.cell? ⟨lbb, 0, none⟩ = some (.slice A ops.length cap))
    (hops : ∀ (i : Nat) (op : Op3), ops[i]? = some op → x.cell? ⟨la, lo + i * 3, none⟩ = some (.int .i64 op.1)) (hlen : ops.length ≤ 10000000000000)
    (hQ : ∀ T', T'.size = 56 → (∀ j, j < 10 → T'[j]? = T[j]?) → T'[10]? = some (.int .i64 (cntC ops ops.length : Int)) → Q .normal ⟨T', []⟩ x) : oS10.wp Try.prog Q ⟨T, []⟩ x := by
  obtain ⟨f, hf, fz⟩ := arrfv T hs
  have e1 := fz 1 _ h1
  have e10 := fz 10 _ h10
  have hj : ∀ j, j < 10 → T[j]? = some (f j) := fun j hj => by rw [hf]; exact arrf_get f (by omega)
  subst hf
  clear fz hs h1 h10
  replace hj := Lib.hid hj
  replace hQ := Lib.hid hQ
  replace hops := Lib.hid hops
  replace hA := Lib.hid hA
  replace hlen := Lib.hid hlen
  simp only [List.range, List.range.loop, List.map_cons, List.map_nil, e1, e10]
  simp only [oS10, oT10, oT9, oT8, oT7, oT6, oT5, oT4, oT3, oT2, oT1, oT0, Try.f5, Option.getD_some]
  go_wp2_with fail
  go_loopw [10, 11, 12] (fun u v d wr => ∃ i : Nat, u = .int .i64 (cntC ops i : Int) ∧ v = .int .i64 (i : Int) ∧ i ≤ ops.length ∧ wr = x) (fun _ v _ _ => ops.length + 1 - natOfV v)
  case atStart => exact ⟨0, rfl, rfl, Nat.zero_le _, rfl⟩
  case round =>
    obtain ⟨i, rfl, rfl, hi, rfl⟩ := hrel
    have hl := hlen.out
    have hci := cntC_le ops i
    by_cases hlt : i < ops.length
    · obtain ⟨op, hop⟩ : ∃ op, ops[i]? = some op := ⟨_, List.getElem?_eq_getElem hlt⟩
      have hA' := hA.out (by omega)
      subst hA'
      have g1 : (i : Int) < (ops.length : Int) := by omega
      have g2 : (0 : Int) ≤ (i : Int) := by omega
      have c1 := hops.out i op hop
      have hiw : IntKind.i64.wrap ((i : Int) + 1) = ((i + 1 : Nat) : Int) := by rw [IntKind.wrap_i64]; omega
      have hcw : IntKind.i64.wrap ((cntC ops i : Int) + 1) = ((cntC ops i + 1 : Nat) : Int) := by rw [IntKind.wrap_i64]; omega
      have e9 : natOfV (.int .i64 ((i : Int) + 1)) = i + 1 := by simp [natOfV]
      have hcs := cntC_succ hop
      replace hcs := Lib.hid hcs
      replace hl := Lib.hid hl
      cases hC : isC op.1 with
      | true =>
        replace hC := Lib.hid hC
        go_wp2_with fail
        refine is_any.mono ?_
        rintro _ _ ⟨rfl, rfl⟩
        rw [hC.out]
        go_wp2_with fail
        exact ⟨⟨i + 1, by rw [hcs.out, hC.out]; rfl, by rw [Int.natCast_add]; rfl, by omega, (by trivial)⟩, by rw [e9]; simp [natOfV]; omega⟩
      | false =>
        replace hC := Lib.hid hC
        go_wp2_with fail
        refine is_any.mono ?_
        rintro _ _ ⟨rfl, rfl⟩
        rw [hC.out]
        go_wp2_with fail
        exact ⟨⟨i + 1, by rw [hcs.out, hC.out]; rfl, by rw [Int.natCast_add]; rfl, by omega, (by trivial)⟩, by rw [e9]; simp [natOfV]; omega⟩
    · obtain rfl : ops.length = i := by omega
      have g1 : ¬ (ops.length : Int) < (ops.length : Int) := by omega
      go_wp2_with fail
      exact hQ.out _ (by simp) (fun j hj' => by
        rw [hj.out j hj']
        match j, hj' with
        | 0, _ | 1, _ | 2, _ | 3, _ | 4, _ | 5, _ | 6, _ | 7, _ | 8, _ | 9, _ => simp [e1]
        | j + 10, h => exact absurd h (by omega)) (by simp)
end
end Go.Proofs.Ytimlbbleblijnaa.Co

namespace Go.Proofs.Ytimlbbleblijnaa.Co
open Go Go.Conc Go.RowKit
set_option linter.unusedVariables false
set_option linter.unusedSimpArgs false
noncomputable def f7B : Code := Try.f27.body.getD .skip
noncomputable def f7S0 : Code := match f7B with | .seq x _ => x | _ => .skip
noncomputable def f7S1 : Code := match f7B with | .seq _ (.seq x _) => x | _ => .skip
noncomputable def f7T2 : Code := match f7B with | .seq _ (.seq _ x) => x | _ => .skip
theorem f7_parts : f7B = .seq f7S0 (.seq f7S1 f7T2) := by kernel_rfl
noncomputable def xf7S0 : Code := f7S0
noncomputable def xf7T2 : Code := f7T2
theorem f7S1_wp {x : World} {Q : Exit → Act → World → Prop}
    (hQ : ∀ T' x', T'.size = 30 → T'[1]? = some (.pointer (some ⟨x.heap.size, 0, none⟩)) → x'.heap = x.heap.push (.cells #[.int .i64 0] 46) → Q .normal ⟨T', []⟩ x') : f7S1.wp Try.prog Q ⟨(Array.replicate 30 undef).setIfInBounds 0 (.bool false), []⟩ x := by
  simp only [f7S1, f7B, Try.f27, Option.getD_some]
  walk_nrm
  go_wp2_with fail
  exact hQ _ _ (by simp) (by simp) rfl
section
variable {h : Nat} {F : Machine → Trace → Prop} {E : Env} {w : World} {b₀ : Frame} {a₀ : Act} {ops₀ : Array Oper} {i₀ : Nat} {rest₀ : List Nat} {k₀ : List Item} {cl : List Frame}
theorem WSet.put {E E1 : Env} {w w1 : World} {b o : Nat} {n : Int} {K : Nat → Obj → Prop} (S : WSet E w E1 w1 ⟨b, o, none⟩ n) (hK : ∀ c o, K c o → w.heap[c]? = some o ∧ E.H c = none ∧ c ≠ b) : ∀ c o, K c o → w1.heap[c]? = some o ∧ E1.H c = none ∧ c ≠ b := fun c o hk => by
  obtain ⟨k1, k2, k3⟩ := hK c o hk
  exact ⟨(S.stands k2 k1 k3).2, (S.stands k2 k1 k3).1, k3⟩
set_option maxRecDepth 100000 in
set_option maxHeartbeats 4000000 in
theorem fixed07_tail {T : Array Value} {wb : Nat} {K : Nat → Obj → Prop} (hs : T.size = 30) (t1 : T[1]? = some (.pointer (some ⟨wb, 0, none⟩))) (M : NM wb K 0 E w)
    (hc : ∀ E' w' v, Kept h none E w E' w' → E'.H = E.H → NM wb K v E' w' → HG Try.prog h F E' (G (b₀.at (a₀.put ((ops₀[i₀]?).bind (·.dst)) (.bool true)) (.inRegion ops₀ rest₀ :: k₀)) cl) w') :
    HGn Try.prog h F E w 200 (G ((base 27).at ⟨T, []⟩ [.code f7T2]) (b₀.at a₀ (.inRegion ops₀ (i₀ :: rest₀) :: k₀) :: cl)) := by
  obtain ⟨f, hf, fz⟩ := arrfv T hs
  have e1 := fz 1 _ t1
  subst hf
  clear fz hs t1
  replace hc := Lib.hid hc
  replace M := Lib.hid M
  rw [show f7T2 = xf7T2 from rfl]
  simp only [xf7T2, f7T2, f7B, Try.f27, Option.getD_some, List.range, List.range.loop, List.map_cons, List.map_nil, e1]
  refine Idl.q (idl_hg Try.prog h F E w) (Idl.rg (idl_hg Try.prog h F E w) [0, 1, 2] rfl ?_)
  apply Idl.value (idl_hg Try.prog h F E w) rfl rfl (by first | decide | exact Go.ConcR.Gen.base_kind _ | exact Go.ConcR.Gen.baseD_kind _ | assumption)
  focus (intro w; go_simp; (try w_num); first | done | rfl)
  focus (intro w; simp [go_sem, *])
  walk_nrm
  refine Idl.callE (fn := Try.f68) (vs := #[.pointer (some ⟨wb, 0, none⟩), .pointer none, .int .i64 5]) (idl_hg Try.prog h F E w) rfl rfl (by k_ne) rfl Try.func68 rfl rfl (by simp [Act.eval]) ?_
  refine wadd_nil (v := 0) (n := 5) M.out.word M.out.wordH (fun E2 w2 hE2 hK2 hWS => ?_)
  have M2 := M.out.wset hWS (by decide)
  rw [show IntKind.i64.wrap (IntKind.i64.wrap (0 + 5) - 5) = 0 by decide]
  rw [show IntKind.i64.wrap (0 + 5) = 5 by decide] at M2
  have H2 := hWS.H
  replace M2 := Lib.hid M2
  replace H2 := Lib.hid H2
  replace hK2 := Lib.hid hK2
  clear hWS hE2
  change HGn Try.prog h F E2 w2 200 _
  walk_nrm
  apply Idl.value (idl_hg Try.prog h F E2 w2) rfl rfl (by first | decide | exact Go.ConcR.Gen.base_kind _ | exact Go.ConcR.Gen.baseD_kind _ | assumption)
  focus (intro w; go_simp; (try w_num); first | done | rfl)
  focus (intro w; simp [go_sem, *])
  walk_nrm
  refine Idl.re (idl_hg Try.prog h F E2 w2) (Idl.q (idl_hg Try.prog h F E2 w2) (Idl.rg (idl_hg Try.prog h F E2 w2) [0, 1, 2] rfl ?_))
  apply Idl.value (idl_hg Try.prog h F E2 w2) rfl rfl (by first | decide | exact Go.ConcR.Gen.base_kind _ | exact Go.ConcR.Gen.baseD_kind _ | assumption)
  focus (intro w; go_simp; (try w_num); first | done | rfl)
  focus (intro w; simp [go_sem, *])
  walk_nrm
  refine Idl.callE (fn := Try.f68) (vs := #[.pointer (some ⟨wb, 0, none⟩), .pointer none, .int .i64 (-7)]) (idl_hg Try.prog h F E2 w2) rfl rfl (by k_ne) rfl Try.func68 rfl rfl (by simp [Act.eval]) ?_
  refine wadd_nil (v := 5) (n := -7) M2.out.word M2.out.wordH (fun E3 w3 hE3 hK3 hWS => ?_)
  have M3 := M2.out.wset hWS (by decide)
  rw [show IntKind.i64.wrap (IntKind.i64.wrap (5 + -7) - -7) = 5 by decide]
  rw [show IntKind.i64.wrap (5 + -7) = -2 by decide] at M3
  have H3 := hWS.H
  replace M3 := Lib.hid M3
  replace H3 := Lib.hid H3
  replace hK3 := Lib.hid hK3
  clear hWS hE3
  change HGn Try.prog h F E3 w3 200 _
  walk_nrm
  apply Idl.value (idl_hg Try.prog h F E3 w3) rfl rfl (by first | decide | exact Go.ConcR.Gen.base_kind _ | exact Go.ConcR.Gen.baseD_kind _ | assumption)
  focus (intro w; go_simp; (try w_num); first | done | rfl)
  focus (intro w; simp [go_sem, *])
  walk_nrm
  refine Idl.re (idl_hg Try.prog h F E3 w3) (Idl.q (idl_hg Try.prog h F E3 w3) (Idl.rg (idl_hg Try.prog h F E3 w3) [0, 1, 2] rfl ?_))
  apply Idl.value (idl_hg Try.prog h F E3 w3) rfl rfl (by first | decide | exact Go.ConcR.Gen.base_kind _ | exact Go.ConcR.Gen.baseD_kind _ | assumption)
  focus (intro w; go_simp; (try w_num); first | done | rfl)
  focus (intro w; simp [go_sem, *])
  walk_nrm
  refine Idl.callE (fn := Try.f69) (vs := #[.pointer (some ⟨wb, 0, none⟩), .pointer none, .int .i64 9]) (idl_hg Try.prog h F E3 w3) rfl rfl (by k_ne) rfl Try.func69 rfl rfl (by simp [Act.eval]) ?_
  refine wswap_nil (v := -2) (n := 9) M3.out.word M3.out.wordH (fun E4 w4 hE4 hK4 hWS => ?_)
  have M4 := M3.out.wset hWS (by decide)
  have H4 := hWS.H
  replace M4 := Lib.hid M4
  replace H4 := Lib.hid H4
  replace hK4 := Lib.hid hK4
  clear hWS hE4
  change HGn Try.prog h F E4 w4 200 _
  walk_nrm
  apply Idl.value (idl_hg Try.prog h F E4 w4) rfl rfl (by first | decide | exact Go.ConcR.Gen.base_kind _ | exact Go.ConcR.Gen.baseD_kind _ | assumption)
  focus (intro w; go_simp; (try w_num); first | done | rfl)
  focus (intro w; simp [go_sem, *])
  walk_nrm
  refine Idl.re (idl_hg Try.prog h F E4 w4) (Idl.q (idl_hg Try.prog h F E4 w4) (Idl.rg (idl_hg Try.prog h F E4 w4) [0, 1, 2] rfl ?_))
  apply Idl.value (idl_hg Try.prog h F E4 w4) rfl rfl (by first | decide | exact Go.ConcR.Gen.base_kind _ | exact Go.ConcR.Gen.baseD_kind _ | assumption)
  focus (intro w; go_simp; (try w_num); first | done | rfl)
  focus (intro w; simp [go_sem, *])
  walk_nrm
  refine Idl.callE (fn := Try.f70) (vs := #[.pointer (some ⟨wb, 0, none⟩), .pointer none]) (idl_hg Try.prog h F E4 w4) rfl rfl (by k_ne) rfl Try.func70 rfl rfl (by simp [Act.eval]) ?_
  refine wload_nil (v := 9) M4.out.word M4.out.wordH (fun E5 w5 hE5 hK5 hWS => ?_)
  have M5 := M4.out.wset hWS (by decide)
  have H5 := hWS.H
  replace M5 := Lib.hid M5
  replace H5 := Lib.hid H5
  replace hK5 := Lib.hid hK5
  clear hWS hE5
  change HGn Try.prog h F E5 w5 200 _
  walk_nrm
  apply Idl.value (idl_hg Try.prog h F E5 w5) rfl rfl (by first | decide | exact Go.ConcR.Gen.base_kind _ | exact Go.ConcR.Gen.baseD_kind _ | assumption)
  focus (intro w; go_simp; (try w_num); first | done | rfl)
  focus (intro w; simp [go_sem, *])
  walk_nrm
  refine Idl.re (idl_hg Try.prog h F E5 w5) (Idl.q (idl_hg Try.prog h F E5 w5) (Idl.rg (idl_hg Try.prog h F E5 w5) [0, 1, 2, 3, 4, 5, 6, 7, 8, 9, 10, 11, 12, 13, 14] rfl ?_))
  apply Idl.value (idl_hg Try.prog h F E5 w5) rfl rfl (by first | decide | exact Go.ConcR.Gen.base_kind _ | exact Go.ConcR.Gen.baseD_kind _ | assumption)
  focus (intro w; go_simp; (try w_num); first | done | rfl)
  focus (intro w; simp [go_sem, *])
  walk_nrm
  apply Idl.value (idl_hg Try.prog h F E5 w5) rfl rfl (by first | decide | exact Go.ConcR.Gen.base_kind _ | exact Go.ConcR.Gen.baseD_kind _ | assumption)
  focus (intro w; go_simp; (try w_num); first | done | rfl)
  focus (intro w; simp [go_sem, *])
  walk_nrm
  apply Idl.value (idl_hg Try.prog h F E5 w5) rfl rfl (by first | decide | exact Go.ConcR.Gen.base_kind _ | exact Go.ConcR.Gen.baseD_kind _ | assumption)
  focus (intro w; go_simp; (try w_num); first | done | rfl)
  focus (intro w; simp [go_sem, *])
  walk_nrm
  apply Idl.value (idl_hg Try.prog h F E5 w5) rfl rfl (by first | decide | exact Go.ConcR.Gen.base_kind _ | exact Go.ConcR.Gen.baseD_kind _ | assumption)
  focus (intro w; go_simp; (try w_num); first | done | rfl)
  focus (intro w; simp [go_sem, *])
  walk_nrm
  apply Idl.value (idl_hg Try.prog h F E5 w5) rfl rfl (by first | decide | exact Go.ConcR.Gen.base_kind _ | exact Go.ConcR.Gen.baseD_kind _ | assumption)
  focus (intro w; go_simp; (try w_num); first | done | rfl)
  focus (intro w; simp [go_sem, *])
  walk_nrm
  apply Idl.value (idl_hg Try.prog h F E5 w5) rfl rfl (by first | decide | exact Go.ConcR.Gen.base_kind _ | exact Go.ConcR.Gen.baseD_kind _ | assumption)
  focus (intro w; go_simp; (try w_num); first | done | rfl)
  focus (intro w; simp [go_sem, *])
  walk_nrm
  apply Idl.value (idl_hg Try.prog h F E5 w5) rfl rfl (by first | decide | exact Go.ConcR.Gen.base_kind _ | exact Go.ConcR.Gen.baseD_kind _ | assumption)
  focus (intro w; go_simp; (try w_num); first | done | rfl)
  focus (intro w; simp [go_sem, *])
  walk_nrm
  apply Idl.value (idl_hg Try.prog h F E5 w5) rfl rfl (by first | decide | exact Go.ConcR.Gen.base_kind _ | exact Go.ConcR.Gen.baseD_kind _ | assumption)
  focus (intro w; go_simp; (try w_num); first | done | rfl)
  focus (intro w; simp [go_sem, *])
  walk_nrm
  apply Idl.value (idl_hg Try.prog h F E5 w5) rfl rfl (by first | decide | exact Go.ConcR.Gen.base_kind _ | exact Go.ConcR.Gen.baseD_kind _ | assumption)
  focus (intro w; go_simp; (try w_num); first | done | rfl)
  focus (intro w; simp [go_sem, *])
  walk_nrm
  apply Idl.value (idl_hg Try.prog h F E5 w5) rfl rfl (by first | decide | exact Go.ConcR.Gen.base_kind _ | exact Go.ConcR.Gen.baseD_kind _ | assumption)
  focus (intro w; go_simp; (try w_num); first | done | rfl)
  focus (intro w; simp [go_sem, *])
  walk_nrm
  apply Idl.value (idl_hg Try.prog h F E5 w5) rfl rfl (by first | decide | exact Go.ConcR.Gen.base_kind _ | exact Go.ConcR.Gen.baseD_kind _ | assumption)
  focus (intro w; go_simp; (try w_num); first | done | rfl)
  focus (intro w; simp [go_sem, *])
  walk_nrm
  apply Idl.value (idl_hg Try.prog h F E5 w5) rfl rfl (by first | decide | exact Go.ConcR.Gen.base_kind _ | exact Go.ConcR.Gen.baseD_kind _ | assumption)
  focus (intro w; go_simp; (try w_num); first | done | rfl)
  focus (intro w; simp [go_sem, *])
  walk_nrm
  apply Idl.value (idl_hg Try.prog h F E5 w5) rfl rfl (by first | decide | exact Go.ConcR.Gen.base_kind _ | exact Go.ConcR.Gen.baseD_kind _ | assumption)
  focus (intro w; go_simp; (try w_num); first | done | rfl)
  focus (intro w; simp [go_sem, *])
  walk_nrm
  apply Idl.value (idl_hg Try.prog h F E5 w5) rfl rfl (by first | decide | exact Go.ConcR.Gen.base_kind _ | exact Go.ConcR.Gen.baseD_kind _ | assumption)
  focus (intro w; go_simp; (try w_num); first | done | rfl)
  focus (intro w; simp [go_sem, *])
  walk_nrm
  apply Idl.value (idl_hg Try.prog h F E5 w5) rfl rfl (by first | decide | exact Go.ConcR.Gen.base_kind _ | exact Go.ConcR.Gen.baseD_kind _ | assumption)
  focus (intro w; go_simp; (try w_num); first | done | rfl)
  focus (intro w; simp [go_sem, *])
  walk_nrm
  refine Idl.re (idl_hg Try.prog h F E5 w5) (Idl.rt (idl_hg Try.prog h F E5 w5) ?_)
  refine Idl.leaveV (n := 1) (v := .bool true) (fn := Try.f27) (idl_hg Try.prog h F E5 w5) rfl rfl Try.func27 (fun w => by simp [results, Try.f27, go_sem]) (fun w => by simp [results, Try.f27, go_sem]) ?_
  exact hc.out E5 w5 9 (((hK2.out.trans hK3.out).trans hK4.out).trans hK5.out) (((H5.out.trans H4.out).trans H3.out).trans H2.out) M5.out
set_option maxRecDepth 100000 in
set_option maxHeartbeats 4000000 in
theorem fixed07_holds (hc : ∀ E' w', Kept h none E w E' w' → Stands E w E' w' → HG Try.prog h F E' (G (b₀.at (a₀.put ((ops₀[i₀]?).bind (·.dst)) (.bool true)) (.inRegion ops₀ rest₀ :: k₀)) cl) w') :
    HGn Try.prog h F E w 200 (entry 27 Try.f27 #[] (b₀.at a₀ (.inRegion ops₀ (i₀ :: rest₀) :: k₀) :: cl)) := by
  have P1 : HGn Try.prog h F E w 100 (G ((base 27).at ⟨(Array.replicate 30 undef).setIfInBounds 0 (.bool false), []⟩ [.code (.seq f7S1 f7T2)]) (b₀.at a₀ (.inRegion ops₀ (i₀ :: rest₀) :: k₀) :: cl)) := by
    refine Idl.step (idl_hg Try.prog h F E w) _ _ _ rfl (fun _ => stepG_seq) ?_
    refine HG.quietM [.cells #[.int .i64 0] 46] (closed_none _) (fun T s => T.size = 30 ∧ T[1]? = some (.pointer (some ⟨s, 0, none⟩))) (by kernel_rfl) (by rfl) (fun x _ hx => ?_) (fun E1 w1 T1 S1 hnew hR => ?_)
    · refine f7S1_wp (fun T' x' h1 h2 h3 => ⟨rfl, rfl, fun b hb => by rw [h3, Array.getElem?_push, if_neg (by omega)], fun i o hi => ?_, h1, h2⟩)
      match i, hi with
      | 0, hi =>
        cases hi
        rw [h3]
        simp
    · obtain ⟨h1, h2⟩ := hR
      obtain ⟨n1, n2⟩ := hnew 0 _ rfl
      rw [Nat.add_zero] at n1 n2
      refine fixed07_tail (wb := w.heap.size) (K := fun b o => w1.heap[b]? = some o ∧ E1.H b = none ∧ b ≠ w.heap.size) h1 h2 ⟨⟨rfl, _, _, n1, rfl⟩, n2, fun b o hk => hk, by decide⟩ (fun E' w' v k1 k2 M => ?_)
      refine hc E' w' (S1.kept.trans k1) (fun b o z1 z2 => ?_)
      obtain ⟨y1, y2⟩ := S1.st b o z1 z2
      have hl := (Array.getElem?_eq_some_iff.1 z2).1
      obtain ⟨k1, k2, _⟩ := M.kobj b o ⟨y2, y1, by omega⟩
      exact ⟨k2, k1⟩
  clear hc
  replace P1 := Lib.hid P1
  unfold entry
  rw [show Try.f27.body.getD .skip = .seq xf7S0 (.seq f7S1 f7T2) from f7_parts, show Try.f27.ntmps = 30 from rfl]
  generalize hG : (Code.seq f7S1 f7T2) = L at P1 ⊢
  simp only [xf7S0, f7S0, f7B, Try.f27, Option.getD_some]
  walk_nrm
  refine Idl.q (idl_hg Try.prog h F E w) (Idl.rg (idl_hg Try.prog h F E w) [0] rfl ?_)
  apply Idl.value (idl_hg Try.prog h F E w) rfl rfl (by first | decide | exact Go.ConcR.Gen.base_kind _ | exact Go.ConcR.Gen.baseD_kind _ | assumption)
  focus (intro w; go_simp; (try w_num); first | done | rfl)
  focus (intro w; simp [go_sem, *])
  walk_nrm
  refine Idl.re (idl_hg Try.prog h F E w) ?_
  exact P1.out
end
end Go.Proofs.Ytimlbbleblijnaa.Co

namespace Go.Proofs.Ytimlbbleblijnaa.Co
open Go Go.Conc Go.RowKit
set_option linter.unusedVariables false
set_option linter.unusedSimpArgs false
def StandsB (B : Nat) (E : Env) (w : World) (E' : Env) (w' : World) : Prop := ∀ b o, b < B → E.H b = none → w.heap[b]? = some o → E'.H b = none ∧ w'.heap[b]? = some o
theorem Stands.toB {B : Nat} {E E' : Env} {w w' : World} (h : Stands E w E' w') : StandsB B E w E' w' := fun b o _ h1 h2 => h b o h1 h2
theorem StandsB.trans {B : Nat} {E E1 E2 : Env} {w w1 w2 : World} (a : StandsB B E w E1 w1) (b : StandsB B E1 w1 E2 w2) : StandsB B E w E2 w2 := fun c o hb h1 h2 => by
  obtain ⟨x, y⟩ := a c o hb h1 h2
  exact b c o hb x y
structure LV (ops : List Op3) (A : Option Addr) (la lo cap lbb : Nat) (E : Env) (w : World) : Prop where
  box : w.heap[lbb]? = some (.cells #[.slice A ops.length cap] 32)
  boxH : E.H lbb = none
  arr : 0 < ops.length → A = some ⟨la, lo, none⟩
  ops : ∀ (i : Nat) (op : Op3), ops[i]? = some op → w.cell? ⟨la, lo + i * 3, none⟩ = some (.int .i64 op.1) ∧ w.cell? ⟨la, lo + i * 3 + 2, none⟩ = some (.int .i64 op.2.2) ∧ E.H la = none
theorem LV.stands {ops : List Op3} {A : Option Addr} {la lo cap lbb : Nat} {E E' : Env} {w w' : World} (h : LV ops A la lo cap lbb E w) (S : Stands E w E' w') : LV ops A la lo cap lbb E' w' := by
  obtain ⟨b1, b2⟩ := S lbb _ h.boxH h.box
  refine ⟨b2, b1, h.arr, fun i op hi => ?_⟩
  obtain ⟨c1, c2, c3⟩ := h.ops i op hi
  have d1 := S.cell c1 c3
  have d2 := S.cell c2 c3
  exact ⟨d1.1, d2.1, d1.2⟩
section
variable {F : Machine → Trace → Prop} {E : Env} {w : World} {ops : List Op3} {A : Option Addr} {la lo cap lbb B : Nat}
noncomputable def xoS1 : Code := oS1
noncomputable def xoS3 : Code := oS3
noncomputable def xoS4 : Code := oS4
noncomputable def xoS8 : Code := oS8
set_option maxRecDepth 100000 in
set_option maxHeartbeats 4000000 in
theorem wa_t9 {T : Array Value} {okb stb : Nat} (hs : T.size = 56) (t1 : T[1]? = some (.pointer (some ⟨lbb, 0, none⟩))) (t6 : T[6]? = some (.pointer (some ⟨okb, 0, none⟩))) (t7 : T[7]? = some (.pointer (some ⟨stb, 0, none⟩))) (t9 : T[9]? = some (.int .i64 (cntC ops ops.length : Int)))
    (V : LV ops A la lo cap lbb E w) (hlen : ops.length ≤ 10000000000000) (ko : w.cell? ⟨okb, 0, none⟩ = some (.bool true)) (koH : E.H okb = none) (ks : w.cell? ⟨stb, 0, none⟩ = some (.int .i64 (cntC ops ops.length : Int))) (ksH : E.H stb = none)
    (hc : ∀ E' w' T todo, Kept 0 none E w E' w' → StandsB B E w E' w' → T[2]? = some (.bool true) → HG Try.prog 0 F E' (G { (base 5).at ⟨T, []⟩ todo with mode := .returning } []) w') :
    HG Try.prog 0 F E (G ((base 5).at ⟨T, []⟩ [.code oS9, .code (.seq oS10 (.seq oS11 .ret))]) []) w := by
  refine HG.quietN (closed_none _) (fun T' => T'.size = 56 ∧ (∀ j, j < 13 → j ≠ 10 → T'[j]? = T[j]?) ∧ T'[10]? = some (.int .i64 0)) (by kernel_rfl) (by rfl) (fun x hx => oS9_wp hs (fun T' h1 h2 h3 => ⟨rfl, rfl, fun _ _ => rfl, h1, h2, h3⟩)) (fun E1 w1 T1 S1 hR => ?_)
  obtain ⟨s1, o1, r1⟩ := hR
  change HGn Try.prog 0 F E1 w1 100 _
  refine Idl.step (idl_hg Try.prog 0 F E1 w1) _ _ _ rfl (fun _ => stepG_seq) ?_
  have V1 := V.stands S1.st
  refine HG.quietN closed_is (fun T' => T'.size = 56 ∧ (∀ j, j < 10 → T'[j]? = T1[j]?) ∧ T'[10]? = some (.int .i64 (cntC ops ops.length : Int))) (by kernel_rfl) (by rfl) (fun x hx => ?_) (fun E2 w2 T2 S2 hR => ?_)
  · refine oS10_wp s1 ((o1 1 (by decide) (by decide)).trans t1) r1 V1.arr ((World.cell?_of_block (a := ⟨lbb, 0, none⟩) (hx lbb V1.boxH)).trans (obj_cell V1.box rfl)) (fun i op hi => ?_) hlen (fun T' h1 h2 h3 => ⟨rfl, rfl, fun _ _ => rfl, h1, h2, h3⟩)
    obtain ⟨c1, _, c3⟩ := V1.ops i op hi
    exact (World.cell?_of_block (a := ⟨la, lo + i * 3, none⟩) (hx la c3)).trans c1
  obtain ⟨s2, o2, r2⟩ := hR
  have S12 := S1.trans S2
  change HGn Try.prog 0 F E2 w2 100 _
  refine Idl.step (idl_hg Try.prog 0 F E2 w2) _ _ _ rfl (fun _ => stepG_seq) ?_
  have q : ∀ j, j < 10 → T2[j]? = T[j]? := fun j hj => (o2 j hj).trans (o1 j (by omega) (by omega))
  have ko2 := S12.st.cell ko koH
  have ks2 := S12.st.cell ks ksH
  refine HG.quietN (closed_none _) (fun T' => T'.size = 56 ∧ T'[2]? = some (.bool true)) (by kernel_rfl) (by rfl) (fun x hx => ?_) (fun E3 w3 T3 S3 hR => ?_)
  · exact oS11_wp s2 ((q 6 (by decide)).trans t6) ((q 7 (by decide)).trans t7) ((q 9 (by decide)).trans t9) r2 ((World.cell?_of_block (a := ⟨okb, 0, none⟩) (hx okb ko2.2)).trans ko2.1) ((World.cell?_of_block (a := ⟨stb, 0, none⟩) (hx stb ks2.2)).trans ks2.1) (fun T' h1 h2 => ⟨rfl, rfl, fun _ _ => rfl, h1, h2⟩)
  obtain ⟨s3, r3⟩ := hR
  change HGn Try.prog 0 F E3 w3 100 _
  refine Idl.step (idl_hg Try.prog 0 F E3 w3) _ _ _ rfl (fun _ => stepG_ret') ?_
  exact hc E3 w3 T3 _ (S12.trans S3).kept (S12.trans S3).st.toB r3
theorem advA_inv {ops : List Op3} {c i : Nat} {s : AS} {z : AS × Option AL} (h : AdvA ops c i s z) (hc : c = cntC ops i) (hi : i ≤ ops.length) :
    (∀ ℓ, z.2 = some ℓ → ℓ.c = c ∧ ℓ.c = cntC ops ℓ.i ∧ ℓ.i < ops.length ∧ ∃ op, ops[ℓ.i]? = some op ∧ isC op.1 = true) ∧ (z.2 = none → z.1.ok = true ∧ z.1.st = (c : Int) ∧ c = cntC ops ops.length) := by
  induction h with
  | @stop i s h =>
    obtain rfl : i = ops.length := by omega
    exact ⟨(fun ℓ e => by cases e), fun _ => ⟨rfl, rfl, hc⟩⟩
  | @call i s op h h2 => exact ⟨(fun ℓ e => by cases e; exact ⟨rfl, hc, (List.getElem?_eq_some_iff.1 h).1, op, h, h2⟩), (fun e => by cases e)⟩
  | @skip i s z op h h2 t ih => exact ih (by rw [cntC_succ h, h2]; simpa using hc) (List.getElem?_eq_some_iff.1 h).1
theorem alone_run {ops : List Op3} {xb okb stb : Nat} {K : Nat → Obj → Prop} {v : Value} {n : Nat} {s : AS} {z : AS × Int} (hz : RunR (aloneD ops xb okb stb K) [⟨v, n, AdvA ops 0 0⟩] [] true s z) : z.1.ok = true ∧ z.1.st = (cntC ops ops.length : Int) ∧ z.2 = (cntC ops ops.length : Int) := by
  have h := solo_run (fun s' o k => (∀ ℓ, o = some ℓ → (ℓ.c : Int) = k ∧ ℓ.c = cntC ops ℓ.i ∧ ℓ.i < ops.length ∧ ∃ op, ops[ℓ.i]? = some op ∧ isC op.1 = true) ∧ (o = none → s'.ok = true ∧ s'.st = k ∧ k = (cntC ops ops.length : Int))) (fun s' o hs => ?_) (fun s1 ℓ k s' o hI hn => ?_) hz
  · exact ⟨(h.2 rfl).1, (h.2 rfl).2.1.trans (h.2 rfl).2.2, (h.2 rfl).2.2⟩
  · obtain ⟨p1, p2⟩ := advA_inv hs rfl (Nat.zero_le _)
    refine ⟨fun ℓ e => ?_, fun e => ?_⟩
    · obtain ⟨q1, q2, q3⟩ := p1 ℓ e
      exact ⟨by rw [q1]; rfl, q2, q3⟩
    · obtain ⟨q1, q2, q3⟩ := p2 e
      exact ⟨q1, q2, by rw [← q3]; rfl⟩
  · obtain ⟨r1, r2, r3, op, r4, r5⟩ := hI.1 ℓ rfl
    obtain ⟨op', e1, e2⟩ := hn
    rw [r4] at e1
    cases e1
    obtain ⟨p1, p2⟩ := advA_inv e2 (by rw [cntC_succ r4, r5, r2]; rfl) (by omega)
    refine ⟨fun ℓ' e => ?_, fun e => ?_⟩
    · obtain ⟨q1, q2, q3⟩ := p1 ℓ' e
      exact ⟨by rw [q1, ← r1]; push_cast; rfl, q2, q3⟩
    · obtain ⟨q1, q2, q3⟩ := p2 e
      exact ⟨q1, by rw [q2, ← r1]; push_cast; rfl, by rw [← q3, ← r1]; push_cast; rfl⟩
end
end Go.Proofs.Ytimlbbleblijnaa.Co

namespace Go.Proofs.Ytimlbbleblijnaa.Co
open Go Go.Conc Go.RowKit
set_option linter.unusedVariables false
set_option linter.unusedSimpArgs false
theorem oT9_parts : oT9 = .seq oS9 (.seq oS10 (.seq oS11 .ret)) := by kernel_rfl
set_option maxRecDepth 100000 in
theorem oT_head : oT0 = .seq oS0 (.seq oS1 (.seq oS2 (.seq oS3 (.seq oS4 (.seq oS5 (.seq oS6 (.seq oS7 (.seq oS8 oT9)))))))) := by kernel_rfl
section
variable {F : Machine → Trace → Prop} {E : Env} {w : World} {ops : List Op3} {A : Option Addr} {la lo cap lbb B : Nat}
set_option maxRecDepth 100000 in
set_option maxHeartbeats 4000000 in
theorem wa_t8 {T : Array Value} {xb xbb okb stb : Nat} (hs : T.size = 56) (t1 : T[1]? = some (.pointer (some ⟨lbb, 0, none⟩))) (t6 : T[6]? = some (.pointer (some ⟨okb, 0, none⟩))) (t7 : T[7]? = some (.pointer (some ⟨stb, 0, none⟩))) (t8 : T[8]? = some (.pointer (some ⟨xbb, 0, none⟩)))
    (V : LV ops A la lo cap lbb E w) (hlen : ops.length ≤ 10000000000000) (hrng : ∀ (i : Nat) (op : Op3), ops[i]? = some op → -9223372036854775808 ≤ op.2.2 ∧ op.2.2 ≤ 9223372036854775807)
    (ko : w.heap[okb]? = some (.cells #[.bool false] 4)) (koH : E.H okb = none) (ks : w.heap[stb]? = some (.cells #[.int .i64 0] 3)) (ksH : E.H stb = none) (kx : w.heap[xb]? = some (.cells #[.int .i64 0] 46)) (kxH : E.H xb = none) (kxx : w.heap[xbb]? = some (.cells #[.pointer (some ⟨xb, 0, none⟩)] 39)) (kxxH : E.H xbb = none)
    (d1 : xb ≠ okb) (d2 : xb ≠ stb) (d3 : okb ≠ stb) (d4 : xbb ≠ xb) (d5 : xbb ≠ okb) (d6 : xbb ≠ stb) (hB : B ≤ xb ∧ B ≤ okb ∧ B ≤ stb) (hlb : lbb ≠ xb ∧ lbb ≠ okb ∧ lbb ≠ stb) (hla : ops ≠ [] → la ≠ xb ∧ la ≠ okb ∧ la ≠ stb)
    (hrole : E.role 0 = .gone) (hmode : ∀ b, E.mode b = 0)
    (hc : ∀ E' w' T todo, Kept 0 none E w E' w' → StandsB B E w E' w' → T[2]? = some (.bool true) → HG Try.prog 0 F E' (G { (base 5).at ⟨T, []⟩ todo with mode := .returning } []) w') :
    HG Try.prog 0 F E (G ((base 5).at ⟨T, []⟩ [.code oS8, .code oT9]) []) w := by
  obtain ⟨fv, hfv⟩ : ∃ fv : Value, fv = .func (.func 30) #[] #[.pointer (some ⟨xbb, 0, none⟩), .pointer (some ⟨lbb, 0, none⟩), .pointer (some ⟨okb, 0, none⟩), .pointer (some ⟨stb, 0, none⟩)] := ⟨_, rfl⟩
  obtain ⟨w1, hw1⟩ : ∃ w1, w1 = w.alloc (.cells #[fv] 52) := ⟨_, rfl⟩
  have run : (∀ b, w.heap.size ≤ b → E.H b = none) → ∀ (b₁ : Frame) (a₁ : Act) (ops₁ : Array Oper) (i₁ : Nat) (rest₁ : List Nat) (k₁ : List Item),
      (∀ E' w' (kk : Int), Kept 0 none E w E' w' → StandsB B E w E' w' → LV ops A la lo cap lbb E' w' → w'.cell? ⟨okb, 0, none⟩ = some (.bool true) → E'.H okb = none → w'.cell? ⟨stb, 0, none⟩ = some (.int .i64 (cntC ops ops.length : Int)) → E'.H stb = none → HG Try.prog 0 F E' (G (b₁.at (a₁.put ((ops₁[i₁]?).bind (·.dst)) (.int .i64 (cntC ops ops.length : Int))) (.inRegion ops₁ rest₁ :: k₁)) []) w') →
      HG Try.prog 0 F E (entry 29 Try.f29 #[.slice (some ⟨w.heap.size, 0, none⟩) 1 1, .slice none 0 0, .bool true] (b₁.at a₁ (.inRegion ops₁ (i₁ :: rest₁) :: k₁) :: [])) w1 := by
    intro hBn b₁ a₁ ops₁ i₁ rest₁ k₁ hfin
    have hold : ∀ b o, w.heap[b]? = some o → w1.heap[b]? = some o := fun b o h => by rw [hw1, alloc_old (Array.getElem?_eq_some_iff.1 h).1]; exact h
    have hnew : w1.heap[w.heap.size]? = some (.cells #[fv] 52) := by rw [hw1]; exact alloc_new
    have hlt : ∀ b o, w.heap[b]? = some o → b ≠ w.heap.size := fun b o h e => by have := (Array.getElem?_eq_some_iff.1 h).1; omega
    obtain ⟨K, hKe⟩ : ∃ K : Nat → Obj → Prop, K = fun b o => w1.heap[b]? = some o ∧ E.H b = none ∧ b ≠ xb ∧ b ≠ okb ∧ b ≠ stb := ⟨_, rfl⟩
    have kc : ∀ {a : Addr} {v : Value}, w1.cell? a = some v → E.H a.block = none → a.block ≠ xb → a.block ≠ okb → a.block ≠ stb → KC K a v := fun {a v} h1 h2 h3 h4 h5 => by
      have hl := World.block_lt_of_cell? w1 _ h1
      refine ⟨w1.heap[a.block], by rw [hKe]; exact ⟨Array.getElem?_eq_getElem hl, h2, h3, h4, h5⟩, fun w' hw' => ?_⟩
      rw [← h1]
      exact World.cell?_of_block (by rw [hw', Array.getElem?_eq_getElem hl])
    have hS1 : Stands E w E w1 := fun b o h1 h2 => ⟨h1, hold b o h2⟩
    have V1 := V.stands hS1
    have hM : AM xb okb stb K ⟨0, false, 0⟩ E w1 := ⟨⟨rfl, _, _, hold _ _ kx, rfl⟩, kxH, hold _ _ ko, koH, hold _ _ ks, ksH, fun b o hk => by rw [hKe] at hk; exact hk, d1, d2, d3, by decide⟩
    have hKops : ∀ (i : Nat) (op : Op3), ops[i]? = some op → KC K ⟨la, lo + i * 3, none⟩ (.int .i64 op.1) ∧ KC K ⟨la, lo + i * 3 + 2, none⟩ (.int .i64 op.2.2) := fun i op hi => by
      obtain ⟨c1, c2, c3⟩ := V1.ops i op hi
      obtain ⟨e1, e2, e3⟩ := hla (fun e => by rw [e] at hi; cases hi)
      exact ⟨kc c1 c3 e1 e2 e3, kc c2 c3 e1 e2 e3⟩
    have hbl : ([⟨fv, ops.length, AdvA ops 0 0⟩] : List (Body AS AL)).length = 1 := rfl
    refine run_holds (D := aloneD ops xb okb stb K) (s := ⟨0, false, 0⟩) (bs := [⟨fv, ops.length, AdvA ops 0 0⟩]) (picks := []) (drain := true) (ba := w.heap.size) (bo := 0) (pb := 0) (po := 0) (by rw [hbl]; decide) (Nat.zero_le _) (fun b hb => ?_) (fun _ => rfl) (fun e => absurd rfl e) (fun p hp => by cases hp) (fun s E' w' m i b hi => ?_) (fun s E' w' m i p hi => by simp at hi) (fun i b hi => ?_) (fun i b hi => ?_) (fun _ => rfl) hrole hmode hM (fun z E' w' hz kk m => ?_)
    · rw [List.mem_singleton] at hb
      subst hb
      dsimp only
      omega
    · have m' : AM xb okb stb K s E' w' := m
      match i, hi with
      | 0, hi =>
        cases hi
        have hk := kc (obj_cell hnew (o := 0) rfl) (hBn _ (Nat.le_refl _)) (Ne.symm (hlt _ _ kx)) (Ne.symm (hlt _ _ ko)) (Ne.symm (hlt _ _ ks))
        obtain ⟨k1, k2⟩ := m'.konst _ _ hk
        exact ⟨k1, k2⟩
      | i + 1, hi => simp at hi
    · match i, hi with
      | 0, hi =>
        cases hi
        rw [hfv]
        exact bornV_clo (fb := 30) (fn := Try.f30) Try.func30 rfl rfl (alone_born V.arr (kc (obj_cell (hold _ _ kxx) (o := 0) rfl) kxxH d4 d5 d6) (kc (obj_cell V1.box (o := 0) rfl) V1.boxH hlb.1 hlb.2.1 hlb.2.2) hKops hlen hrng)
      | i + 1, hi => simp at hi
    · match i, hi with
      | 0, hi =>
        cases hi
        exact alone_start
      | i + 1, hi => simp at hi
    · have m' : AM xb okb stb K z.1 E' w' := m
      obtain ⟨z1, z2, z3⟩ := alone_run hz
      have hk1 : Kept 0 none E w E w1 := by rw [hw1]; exact kept_alloc
      have okc := obj_cell m'.okc (o := 0) rfl
      have stc := obj_cell m'.stc (o := 0) rfl
      rw [z1] at okc
      rw [z2] at stc
      rw [z3]
      have stand : ∀ b o, K b o → w'.heap[b]? = some o ∧ E'.H b = none := fun b o hk => ⟨(m'.kobj b o hk).1, (m'.kobj b o hk).2.1⟩
      refine hfin E' w' z.2 (hk1.trans kk) (fun b o hb h1 h2 => ?_) ?_ okc m'.okH stc m'.stH
      · obtain ⟨q1, q2⟩ := stand b o (by rw [hKe]; exact ⟨hold b o h2, h1, by omega, by omega, by omega⟩)
        exact ⟨q2, q1⟩
      · obtain ⟨q1, q2⟩ := stand lbb _ (by rw [hKe]; exact ⟨V1.box, V1.boxH, hlb⟩)
        refine ⟨q1, q2, V.arr, fun i op hi => ?_⟩
        obtain ⟨x1, x2⟩ := hKops i op hi
        obtain ⟨y1, y2⟩ := m'.konst _ _ x1
        obtain ⟨y3, _⟩ := m'.konst _ _ x2
        exact ⟨y1, y3, y2⟩
  have P9 : ∀ T' : Array Value, T'.size = 56 → (∀ j, j < 13 → j ≠ 9 → T'[j]? = T[j]?) → T'[9]? = some (.int .i64 (cntC ops ops.length : Int)) → ∀ E' w', Kept 0 none E w E' w' → StandsB B E w E' w' → LV ops A la lo cap lbb E' w' → w'.cell? ⟨okb, 0, none⟩ = some (.bool true) → E'.H okb = none → w'.cell? ⟨stb, 0, none⟩ = some (.int .i64 (cntC ops ops.length : Int)) → E'.H stb = none → HGn Try.prog 0 F E' w' 100 (G ((base 5).at ⟨T', []⟩ [.code oT9]) []) := by
    intro T' h1 h2 h3 E' w' k1 k2 V' o1 o2 o3 o4
    rw [oT9_parts]
    refine Idl.step (idl_hg Try.prog 0 F E' w') _ _ _ rfl (fun _ => stepG_seq) ?_
    exact wa_t9 (B := B) (ops := ops) h1 ((h2 1 (by decide) (by decide)).trans t1) ((h2 6 (by decide) (by decide)).trans t6) ((h2 7 (by decide) (by decide)).trans t7) h3 V' hlen o1 o2 o3 o4 (fun E2 w2 T2 todo k s r => hc E2 w2 T2 todo (k1.trans k) (k2.trans s) r)
  obtain ⟨f, hf, fz⟩ := arrfv T hs
  have e1 := fz 1 _ t1
  have e6 := fz 6 _ t6
  have e7 := fz 7 _ t7
  have e8 := fz 8 _ t8
  have hj : ∀ j, j < 13 → T[j]? = some (f j) := fun j hj => by rw [hf]; exact arrf_get f (by omega)
  replace run := Lib.hid run
  replace P9 := Lib.hid P9
  replace hj := Lib.hid hj
  have hrole' := hrole
  clear hc hrng hlen V ko koH ks ksH kx kxH kxx kxxH d1 d2 d3 d4 d5 d6 hB hlb hla hmode t1 t6 t7 t8 fz hs
  rw [hf]
  replace hf := Lib.hid hf
  replace hw1 := Lib.hid hw1
  change HGn Try.prog 0 F E w 100 _
  generalize hG9 : oT9 = L9 at P9 ⊢
  rw [show oS8 = xoS8 from rfl]
  simp only [xoS8, oS8, oT8, oT7, oT6, oT5, oT4, oT3, oT2, oT1, oT0, Try.f5, Option.getD_some, List.range, List.range.loop, List.map_cons, List.map_nil, e1, e6, e7, e8]
  refine Idl.rg (idl_hg Try.prog 0 F E w) [0, 1, 2, 3] rfl ?_
  apply Idl.value (idl_hg Try.prog 0 F E w) rfl rfl (by first | decide | exact Go.ConcR.Gen.base_kind _ | exact Go.ConcR.Gen.baseD_kind _ | assumption)
  focus (intro w; go_simp; (try w_num); first | done | rfl)
  focus (intro w; simp [go_sem, *])
  walk_nrm
  refine HGn.mkV (c := #[.func (.func 30) #[] #[.pointer (some ⟨xbb, 0, none⟩), .pointer (some ⟨lbb, 0, none⟩), .pointer (some ⟨okb, 0, none⟩), .pointer (some ⟨stb, 0, none⟩)]]) (t := 52) (fun s => .slice (some ⟨s, 0, none⟩) 1 1) hrole' rfl rfl (by k_ne) (fun w₁ => ⟨by kernel_rfl, by kernel_rfl⟩) (fun B2 _ => ?_)
  walk_nrm
  rw [← hfv, ← hw1.out]
  replace B2 := Lib.hid B2
  replace hfv := Lib.hid hfv
  skip
  refine Idl.callE (fn := Try.f29) (vs := #[.slice (some ⟨w.heap.size, 0, none⟩) 1 1, .slice none 0 0, .bool true]) (idl_hg Try.prog 0 F E w1) rfl rfl (by k_ne) rfl Try.func29 rfl rfl (by simp [Act.eval]) ?_
  refine run.out B2.out _ _ _ _ _ _ (fun E' w' kk k1 k2 V' o1 o2 o3 o4 => ?_)
  replace k1 := Lib.hid k1
  replace k2 := Lib.hid k2
  replace V' := Lib.hid V'
  replace o1 := Lib.hid o1
  replace o2 := Lib.hid o2
  replace o3 := Lib.hid o3
  replace o4 := Lib.hid o4
  clear run
  change HGn Try.prog 0 F E' w' 200 _
  walk_nrm
  apply Idl.value (idl_hg Try.prog 0 F E' w') rfl rfl (by first | decide | exact Go.ConcR.Gen.base_kind _ | exact Go.ConcR.Gen.baseD_kind _ | assumption)
  focus (intro w; go_simp; (try w_num); first | done | rfl)
  focus (intro w; simp [go_sem, *])
  walk_nrm
  refine Idl.re (idl_hg Try.prog 0 F E' w') ?_
  refine P9.out _ (by simp) (fun j h1 h2 => ?_) (by simp) E' w' k1.out k2.out V'.out o1.out o2.out o3.out o4.out
  rw [hj.out j h1]
  match j, h1 with
  | 0, _ | 1, _ | 2, _ | 3, _ | 4, _ | 5, _ | 6, _ | 7, _ | 8, _ | 10, _ | 11, _ | 12, _ => simp [e1, e6, e7, e8]
  | 9, _ => exact absurd rfl h2
  | j + 13, h => exact absurd h (by omega)
set_option maxRecDepth 100000 in
set_option maxHeartbeats 4000000 in
theorem wa_t5 {T : Array Value} (hs : T.size = 56) (t1 : T[1]? = some (.pointer (some ⟨lbb, 0, none⟩))) (V : LV ops A la lo cap lbb E w) (hlen : ops.length ≤ 10000000000000) (hrng : ∀ (i : Nat) (op : Op3), ops[i]? = some op → -9223372036854775808 ≤ op.2.2 ∧ op.2.2 ≤ 9223372036854775807) (hB : B ≤ w.heap.size)
    (hrole : E.role 0 = .gone) (hmode : ∀ b, E.mode b = 0)
    (hc : ∀ E' w' T todo, Kept 0 none E w E' w' → StandsB B E w E' w' → T[2]? = some (.bool true) → HG Try.prog 0 F E' (G { (base 5).at ⟨T, []⟩ todo with mode := .returning } []) w') :
    HG Try.prog 0 F E (G ((base 5).at ⟨T, []⟩ [.code (.seq oS5 (.seq oS6 (.seq oS7 (.seq oS8 oT9))))]) []) w := by
  have hlbl := (Array.getElem?_eq_some_iff.1 V.box).1
  have hlal : ops ≠ [] → la < w.heap.size := fun hne => by
    obtain ⟨op, r, e⟩ := List.exists_cons_of_ne_nil hne
    obtain ⟨c1, _⟩ := V.ops 0 op (by rw [e]; rfl)
    exact World.block_lt_of_cell? w _ c1
  change HGn Try.prog 0 F E w 100 _
  refine Idl.step (idl_hg Try.prog 0 F E w) _ _ _ rfl (fun _ => stepG_seq) ?_
  refine HG.quietM [.cells #[.bool false] 4] (closed_none _) (fun T' s => T'.size = 56 ∧ (∀ j, j < 13 → j ≠ 6 → T'[j]? = T[j]?) ∧ T'[6]? = some (.pointer (some ⟨s, 0, none⟩))) (by kernel_rfl) (by rfl) (fun x _ hx => oS5_wp hs (fun T' x' h1 h2 h3 h4 h5 => ⟨rfl, rfl, h4, (fun i o hi => by match i, hi with | 0, hi => cases hi; exact h5), h1, h2, h3⟩)) (fun E1 w1 T1 S1 N1 hR => ?_)
  obtain ⟨s1, o1, r1⟩ := hR
  obtain ⟨n1, n1H⟩ := N1 0 _ rfl
  have z1 := S1.kept.size
  have y1 := (Array.getElem?_eq_some_iff.1 n1).1
  change HGn Try.prog 0 F E1 w1 100 _
  refine Idl.step (idl_hg Try.prog 0 F E1 w1) _ _ _ rfl (fun _ => stepG_seq) ?_
  refine HG.quietM [.cells #[.int .i64 0] 3] (closed_none _) (fun T' s => T'.size = 56 ∧ (∀ j, j < 13 → j ≠ 7 → T'[j]? = T1[j]?) ∧ T'[7]? = some (.pointer (some ⟨s, 0, none⟩))) (by kernel_rfl) (by rfl) (fun x _ hx => oS6_wp s1 (fun T' x' h1 h2 h3 h4 h5 => ⟨rfl, rfl, h4, (fun i o hi => by match i, hi with | 0, hi => cases hi; exact h5), h1, h2, h3⟩)) (fun E2 w2 T2 S2 N2 hR => ?_)
  obtain ⟨s2, o2, r2⟩ := hR
  obtain ⟨n2, n2H⟩ := N2 0 _ rfl
  have z2 := S2.kept.size
  have y2 := (Array.getElem?_eq_some_iff.1 n2).1
  obtain ⟨n12H, n12⟩ := S2.st _ _ n1H n1
  change HGn Try.prog 0 F E2 w2 100 _
  refine Idl.step (idl_hg Try.prog 0 F E2 w2) _ _ _ rfl (fun _ => stepG_seq) ?_
  refine HG.quietM [.cells #[.int .i64 0] 46, .cells #[.pointer (some ⟨w2.heap.size, 0, none⟩)] 39] (closed_none _) (fun T' s => T'.size = 56 ∧ (∀ j, j < 13 → j ≠ 8 → T'[j]? = T2[j]?) ∧ T'[8]? = some (.pointer (some ⟨s + 1, 0, none⟩))) (by kernel_rfl) (by rfl) (fun x hxs hx => ?_) (fun E3 w3 T3 S3 N3 hR => ?_)
  · refine oS7_wp s2 (fun T' x' h1 h2 h3 h4 h5 h6 => ⟨rfl, rfl, h4, (fun i o hi => ?_), h1, h2, h3⟩)
    match i, hi with
    | 0, hi => cases hi; exact h5
    | 1, hi => cases hi; rw [← hxs]; exact h6
    | i + 2, hi => simp at hi
  obtain ⟨s3, o3, r3⟩ := hR
  obtain ⟨n3, n3H⟩ := N3 0 _ rfl
  obtain ⟨n4, n4H⟩ := N3 1 _ rfl
  obtain ⟨n23H, n23⟩ := S3.st _ _ n2H n2
  obtain ⟨n13H, n13⟩ := S3.st _ _ n12H n12
  have S13 := (S1.trans S2).trans S3
  rw [Nat.add_zero] at n3 n3H n23 n23H n13 n13H y1 y2
  change HGn Try.prog 0 F E3 w3 100 _
  refine Idl.step (idl_hg Try.prog 0 F E3 w3) _ _ _ rfl (fun _ => stepG_seq) ?_
  refine wa_t8 (B := B) (ops := ops) (xb := w2.heap.size) (xbb := w2.heap.size + 1) (okb := w.heap.size) (stb := w1.heap.size) s3 ?_ ?_ ?_ r3 (V.stands S13.st) hlen hrng n13 n13H n23 n23H n3 n3H n4 n4H (by omega) (by omega) (by omega) (by omega) (by omega) (by omega) ⟨by omega, by omega, by omega⟩ ⟨by omega, by omega, by omega⟩ (fun hne => by have := hlal hne; exact ⟨by omega, by omega, by omega⟩) (S13.kept.le.roleH.trans hrole) (fun b => S13.kept.le.mode b (hmode b)) (fun E' w' T' todo k s r => hc E' w' T' todo (S13.kept.trans k) (S13.st.toB.trans s) r)
  · rw [o3 1 (by decide) (by decide), o2 1 (by decide) (by decide), o1 1 (by decide) (by decide)]; exact t1
  · rw [o3 6 (by decide) (by decide), o2 6 (by decide) (by decide)]; exact r1
  · rw [o3 7 (by decide) (by decide)]; exact r2
end
end Go.Proofs.Ytimlbbleblijnaa.Co
