/- Lemmas for the laws of this seat, laid together of PGee, PGef, PGcg, PGeg. -/
import Derived.Test.YtimlbbleblijnaaS19
import Derived.Test.YtimlbbleblijnaaS20
import Derived.Laws.OwnMore
import Derived.ArgAppend

namespace Go.Proofs.Ytimlbbleblijnaa.Co
open Go Go.Conc Go.RowKit
open Go.ConcN (sumTo upd sumTo_upd upd_ne upd_same sumTo_congr le_sumTo)
set_option linter.unusedVariables false
set_option linter.unusedSimpArgs false
theorem info34 : ∃ i : TypeInfo, Try.prog.info? 34 = some i ∧ i.zero = some (.agg #[.int .i64 0, .int .i64 0, .int .i64 0]) ∧ i.size = 3 ∧ i.bytes = 24 := by
  have h : (Try.prog.info? 34).isSome = true := by kernel_rfl
  obtain ⟨i, hi⟩ := Option.isSome_iff_exists.1 h
  have h2 : (Try.prog.info? 34).map (fun i => (i.zero, i.size, i.bytes)) = some (some (.agg #[.int .i64 0, .int .i64 0, .int .i64 0]), 3, 24) := by kernel_rfl
  rw [hi] at h2
  simp only [Option.map_some, Option.some.injEq, Prod.mk.injEq] at h2
  exact ⟨i, hi, h2.1, h2.2.1, h2.2.2⟩
theorem info32 : ∃ i : TypeInfo, Try.prog.info? 32 = some i ∧ i.zero = some (.slice none 0 0) ∧ i.size = 1 ∧ i.bytes = 24 := by
  have h : (Try.prog.info? 32).isSome = true := by kernel_rfl
  obtain ⟨i, hi⟩ := Option.isSome_iff_exists.1 h
  have h2 : (Try.prog.info? 32).map (fun i => (i.zero, i.size, i.bytes)) = some (some (.slice none 0 0), 1, 24) := by kernel_rfl
  rw [hi] at h2
  simp only [Option.map_some, Option.some.injEq, Prod.mk.injEq] at h2
  exact ⟨i, hi, h2.1, h2.2.1, h2.2.2⟩
def opV (o : Op3) : List Value := [.int .i64 o.1, .int .i64 o.2.1, .int .i64 o.2.2]
def opsV (l : List Op3) : List Value := (l.map opV).flatten
theorem opsV_len : ∀ l : List Op3, (opsV l).length = l.length * 3
  | [] => rfl
  | o :: l => by
    have e : opsV (o :: l) = opV o ++ opsV l := by simp [opsV]
    rw [e, List.length_append, opsV_len l, List.length_cons]
    show 3 + _ = _
    omega
theorem opsV_get : ∀ {l : List Op3} {i : Nat} {o : Op3}, l[i]? = some o → ∀ {j : Nat}, j < 3 → (opsV l)[i * 3 + j]? = (opV o)[j]?
  | [], i, o, h, j, hj => by simp at h
  | o0 :: l, 0, o, h, j, hj => by
    have e : opsV (o0 :: l) = opV o0 ++ opsV l := by simp [opsV]
    have h' : o0 = o := by simpa using h
    rw [e, h', Nat.zero_mul, Nat.zero_add, List.getElem?_append_left (by show j < 3; exact hj)]
  | o0 :: l, i + 1, o, h, j, hj => by
    have e : opsV (o0 :: l) = opV o0 ++ opsV l := by simp [opsV]
    have h' : l[i]? = some o := by simpa using h
    rw [e, List.getElem?_append_right (by show 3 ≤ _; omega), ← opsV_get h' hj]
    congr 1
    show (i + 1) * 3 + j - 3 = _
    omega
theorem opsV_in {l : List Op3} {k : Nat} {v : Value} (h : (opsV l)[k]? = some v) : ∃ i j o, l[i]? = some o ∧ j < 3 ∧ k = i * 3 + j ∧ (opV o)[j]? = some v := by
  have hk := (List.getElem?_eq_some_iff.1 h).1
  rw [opsV_len] at hk
  obtain ⟨o, ho⟩ : ∃ o, l[k / 3]? = some o := ⟨_, List.getElem?_eq_getElem (by omega)⟩
  have e : k = k / 3 * 3 + k % 3 := by omega
  refine ⟨k / 3, k % 3, o, ho, by omega, e, ?_⟩
  rw [← opsV_get ho (by omega), ← e]
  exact h
def ownO (l : List Op3) : List Value := opsV l ++ [.int .i64 91, .int .i64 0, .int .i64 0, .int .i64 92, .int .i64 0, .int .i64 0]
theorem made_o (n : Nat) : madeCells (Value.agg #[.int .i64 0, .int .i64 0, .int .i64 0]).cells (n * 3) = (List.replicate (n * 3) (Value.int .i64 0)).toArray := by
  apply Array.ext
  · simp [madeCells]
  · intro i h1 h2
    simp [madeCells, Value.cells]
    have h3 : i % 3 = 0 ∨ i % 3 = 1 ∨ i % 3 = 2 := by omega
    rcases h3 with h | h | h <;> simp [h]
theorem make_o (n : Nat) (hn : n ≤ 1000000000000) (x : World) : (Instr.makeSlice 32 (.int .i64 ((n : Int) + 2)) (.int .i64 ((n : Int) + 2))).run Try.prog x = .ok (.slice (some ⟨x.heap.size, 0, none⟩) (n + 2) (n + 2)) (x.alloc (.cells (List.replicate ((n + 2) * 3) (Value.int .i64 0)).toArray 34)) := by
  obtain ⟨i0, hi, hz, hs, hb⟩ := info34
  have h := run_make (P := Try.prog) x 32 34 i0 _ Try.underlying32 hi hz .i64 .i64 ((n : Int) + 2) ((n : Int) + 2) (by omega) (Int.le_refl _) (by rw [hb]; push_cast; omega) (by omega)
  have e : ((n : Int) + 2).toNat = n + 2 := by omega
  rw [e, hs, made_o] at h
  exact h
theorem store_run {P : Program} {w : World} {g o : Nat} {T t : TypeId} {i : TypeInfo} {cur : List Value} (a b c : Value) (hi : P.info? T = some i) (hs : i.size = 3) (hg : w.heap[g]? = some (.cells cur.toArray t (0, 0))) (hfit : o + 3 ≤ cur.length) (h1 : a.oneCell' = true) (h2 : b.oneCell' = true) (h3 : c.oneCell' = true) :
    (Instr.storeAt T (.pointer (some ⟨g, o, none⟩)) (.agg #[a, b, c])).run P w = .ok () (w.setRow g (cur.take o ++ [a, b, c] ++ cur.drop (o + 3)).toArray) := by
  have hst := run_storeCells_at P g o t [a, b, c] 0 cur.toArray w hg (by simpa using hfit) (by simp [h1, h2, h3])
  simp only [Nat.add_zero] at hst
  have e : (Sem.run P (Go.sizeOf T) w) = .ok 3 w := by simp [Go.sizeOf, typeInfo, hi, hs]
  have e2 : (Sem.run P (Instr.sureAddr (Value.pointer (some ⟨g, o, none⟩))) w) = .ok ⟨g, o, none⟩ w := rfl
  unfold Instr.storeAt storeVar
  simp only [Sem.run_bind, Result.andThen_ok, Value.cells, e, e2]
  exact hst
theorem wpList_store {P : Program} {w w' : World} {ops : Array Oper} {rest : List Oper} {o : Oper} {a : Act} {Q : Exit → Act → World → Prop} (hgd : o.guard = none) (hdst : o.dst = none) (d s : Operand) (T : TypeId) (ho : o.op = .store T d s) {u v : Value} (hd : a.eval d = u) (hs : a.eval s = v) (hrun : (Instr.storeAt T u v).run P w = .ok () w') (h : wpList P ops Q rest a w') : wpList P ops Q (o :: rest) a w := by
  refine wpList_plain hgd fun K hK => ?_
  unfold Oper.wp
  simp [execOp, ho, hd, hs, hrun, Result.andThen]
  refine hK _ _ ?_
  rw [hdst]
  exact h
def rowO (LB : Nat → Nat) (ts : List (List Op3)) (n : Nat) : List Value := (List.range n).map fun i => .slice (some ⟨LB i, 0, none⟩) (lenOf ts i) (lenOf ts i + 2)
structure OwnT (B : Nat) (x : World) (ov : Value) (LB : Nat → Nat) (ts : List (List Op3)) (n : Nat) : Prop where
  row : x.ownsRow B 32 1 ov n (rowO LB ts n)
  up : ∀ i, i < n → B ≤ LB i
  ne : ∀ i, i < n → ov.ownBlock ≠ some (LB i)
  inj : ∀ i j, i < n → j < n → LB i = LB j → i = j
  ops : ∀ i l, i < n → ts[i]? = some l → x.heap[LB i]? = some (.cells (ownO l).toArray 34)
set_option maxRecDepth 100000 in
set_option maxHeartbeats 4000000 in
theorem copied_wp {x : World} {ta : Option Addr} {ba bo cap : Nat} {LA : Nat → Option Addr} {LC : Nat → Nat} {ts : List (List Op3)} (hT : OpsX x ta ba bo LA LC ts) (hn : ts.length ≤ 1000000000000) (hll : ∀ l ∈ ts, l.length ≤ 100000000000) :
    Calls Try.prog 18 #[.slice ta ts.length cap] x fun e x' => ∃ ov LB, e = .returned ov ∧ Below x.heap.size x x' ∧ OwnT x.heap.size x' ov LB ts ts.length := by
  replace hT := Lib.hid hT
  obtain ⟨B, hB⟩ : ∃ B, B = x.heap.size := ⟨_, rfl⟩
  rw [← hB]
  replace hB := Lib.hid hB
  obtain ⟨i3, hi3, hz3, hs3, hb3⟩ := info34
  obtain ⟨i2, hi2, hz2, hs2, hb2'⟩ := info32
  go_enter Try.func18, Try.ntmps18
  go_wp2_with fail
  go_loopw [3, 4] (fun ov v wr => ∃ (i : Nat) (LB : Nat → Nat), v = .int .i64 (i : Int) ∧ i ≤ ts.length ∧ Hid (OwnT B wr ov LB ts i) ∧ Hid (Below B x wr) ∧ B ≤ wr.heap.size) (fun _ v _ => ts.length + 1 - natOfV v)
  case atStart =>
    refine ⟨0, fun _ => 0, rfl, Nat.zero_le _, ⟨?_, fun i h => absurd h (Nat.not_lt_zero _), fun i h => absurd h (Nat.not_lt_zero _), fun i j h => absurd h (Nat.not_lt_zero _), fun i l h => absurd h (Nat.not_lt_zero _)⟩, ?_, ?_⟩
    · exact World.ownsRow_made (e := 32) (size := 1) x #[] 0 (base := B) (Nat.le_of_eq hB.out) (by decide) (by simp)
    · exact (Below.refl _ _).alloc (Nat.le_of_eq hB.out) _
    · have := hB.out; rw [alloc_size]; omega
  case round =>
    obtain ⟨i, LB, rfl, hi, hO, hb, hbs⟩ := hrel
    by_cases hlt : i < ts.length
    · obtain rfl := hT.out.ta (by omega)
      have g1 : (i : Int) < (ts.length : Int) := by omega
      have g2 : (0 : Int) ≤ (i : Int) := by omega
      obtain ⟨l, hl⟩ : ∃ l, ts[i]? = some l := ⟨_, List.getElem?_eq_getElem hlt⟩
      have hlb := hll l (List.mem_of_getElem? hl)
      have hxl := hT.out.row i l hl
      have hxlb := World.block_lt_of_cell? x _ hxl
      have c1 := (hb.out.cell (by rw [hB.out]; exact hxlb)).trans hxl
      have hm := make_o l.length (by omega)
      have q1 : IntKind.i64.wrap ((l.length : Int) + 2) = (l.length : Int) + 2 := by rw [IntKind.wrap_i64]; omega
      obtain ⟨Z, hZ⟩ : ∃ Z, Z = List.replicate ((l.length + 2) * 3) (Value.int .i64 0) := ⟨_, rfl⟩
      rw [← hZ] at hm
      have hZl : Z.length = (l.length + 2) * 3 := by rw [hZ, List.length_replicate]
      have hZ0 : (wr.alloc (.cells Z.toArray 34)).heap[wr.heap.size]? = some (.cells Z.toArray 34) := alloc_new
      have hrun := copy_run (P := Try.prog) (sT := 32) (ty := 3) (dLen := l.length + 2) (dCap := l.length + 2) (sLen := l.length) (sp := LA i) (sCap := LC i) (cs := opsV l) Try.underlying32 hi3 hZ0 (by rw [opsV_len, hs3, show Nat.min l.length (l.length + 2) = l.length from Nat.min_eq_left (by omega)]) (fun e => by
        by_cases h : l = []
        · rw [h]; rfl
        · obtain ⟨la, lo, e1, _⟩ := hT.out.ops i l hl h
          rw [e1] at e; cases e) (fun ad ha j v hv => by
        obtain ⟨i', j', o, ho, hj', rfl, hv'⟩ := opsV_in hv
        obtain ⟨la, lo, e1, e2⟩ := hT.out.ops i l hl (fun e => by rw [e] at ho; cases ho)
        rw [e1] at ha
        cases ha
        have e : (⟨la, lo, none⟩ : Addr).add (i' * 3 + j') = ⟨la, lo + i' * 3 + j', none⟩ := by
          rw [Nat.add_assoc]
          unfold Addr.add; split <;> simp_all
        rw [e]
        have h : x.cell? ⟨la, lo + i' * 3 + j', none⟩ = some v := by
          obtain ⟨k1, k2, k3⟩ := e2 i' o ho
          have h3 : j' = 0 ∨ j' = 1 ∨ j' = 2 := by omega
          rcases h3 with rfl | rfl | rfl
          · rw [Nat.add_zero, k1]; exact hv'
          · rw [k2]; exact hv'
          · rw [k3]; exact hv'
        have h' := (hb.out.cell (by rw [hB.out]; exact World.block_lt_of_cell? x _ h)).trans h
        exact (World.cell?_alloc_some wr _ _ (by rw [h']; rfl)).trans h') (by rw [opsV_len, hZl]; omega) (fun v hv => by
        obtain ⟨k, hk⟩ := List.getElem?_of_mem hv
        obtain ⟨i', j', o, ho, hj', rfl, hv'⟩ := opsV_in hk
        have h3 : j' = 0 ∨ j' = 1 ∨ j' = 2 := by omega
        rcases h3 with rfl | rfl | rfl <;> (simp [opV] at hv'; subst hv'; rfl))
      obtain ⟨W2, hW2⟩ : ∃ W, W = (wr.alloc (.cells Z.toArray 34)).setRow wr.heap.size ((opsV l) ++ Z.drop (opsV l).length).toArray := ⟨_, rfl⟩
      rw [← hW2] at hrun
      have hr2 : W2.heap[wr.heap.size]? = some (.cells ((opsV l) ++ Z.drop (opsV l).length).toArray 34) := by rw [hW2]; exact setRow_heap _ _ _ _ _ _ hZ0
      have hl2 : Z.drop (opsV l).length = [.int .i64 0, .int .i64 0, .int .i64 0, .int .i64 0, .int .i64 0, .int .i64 0] := by
        rw [opsV_len, hZ, List.drop_replicate]
        have : (l.length + 2) * 3 - l.length * 3 = 6 := by omega
        rw [this]
        rfl
      rw [hl2] at hr2
      have c3 : (wr.alloc (.cells Z.toArray 34)).cell? ⟨ba, bo + i, none⟩ = some (.slice (LA i) l.length (LC i)) := (World.cell?_alloc_some wr _ _ (by rw [c1]; rfl)).trans c1
      obtain ⟨G, hG⟩ : ∃ G, G = wr.heap.size := ⟨_, rfl⟩
      have c2 : W2.cell? ⟨ba, bo + i, none⟩ = some (.slice (LA i) l.length (LC i)) := by
        rw [hW2]
        refine (World.cell?_of_block ?_).trans c1
        rw [setRow_other _ _ _ _ (by have := World.block_lt_of_cell? wr _ c1; dsimp only at this ⊢; omega)]
        exact alloc_old (World.block_lt_of_cell? wr _ c1)
      have hst1 := store_run (P := Try.prog) (o := l.length * 3) (.int .i64 91) (.int .i64 0) (.int .i64 0) hi3 hs3 hr2 (by rw [List.length_append, opsV_len]; simp) rfl rfl rfl
      have e1 : List.take (l.length * 3) (opsV l ++ [Value.int .i64 0, .int .i64 0, .int .i64 0, .int .i64 0, .int .i64 0, .int .i64 0]) ++ [.int .i64 91, .int .i64 0, .int .i64 0] ++ List.drop (l.length * 3 + 3) (opsV l ++ [Value.int .i64 0, .int .i64 0, .int .i64 0, .int .i64 0, .int .i64 0, .int .i64 0]) = opsV l ++ [.int .i64 91, .int .i64 0, .int .i64 0, .int .i64 0, .int .i64 0, .int .i64 0] := by
        rw [← opsV_len l, List.take_left, List.drop_append]
        simp
      rw [e1] at hst1
      obtain ⟨W3, hW3⟩ : ∃ W, W = W2.setRow wr.heap.size (opsV l ++ [Value.int .i64 91, .int .i64 0, .int .i64 0, .int .i64 0, .int .i64 0, .int .i64 0]).toArray := ⟨_, rfl⟩
      rw [← hW3] at hst1
      have hr3 : W3.heap[wr.heap.size]? = some (.cells (opsV l ++ [Value.int .i64 91, .int .i64 0, .int .i64 0, .int .i64 0, .int .i64 0, .int .i64 0]).toArray 34) := by rw [hW3]; exact setRow_heap _ _ _ _ _ _ hr2
      have hst2 := store_run (P := Try.prog) (o := (l.length + 1) * 3) (.int .i64 92) (.int .i64 0) (.int .i64 0) hi3 hs3 hr3 (by rw [List.length_append, opsV_len]; simp; omega) rfl rfl rfl
      have e2 : List.take ((l.length + 1) * 3) (opsV l ++ [Value.int .i64 91, .int .i64 0, .int .i64 0, .int .i64 0, .int .i64 0, .int .i64 0]) ++ [.int .i64 92, .int .i64 0, .int .i64 0] ++ List.drop ((l.length + 1) * 3 + 3) (opsV l ++ [Value.int .i64 91, .int .i64 0, .int .i64 0, .int .i64 0, .int .i64 0, .int .i64 0]) = ownO l := by
        have e3 : (l.length + 1) * 3 = (opsV l).length + 3 := by rw [opsV_len]; omega
        rw [e3, List.take_append, List.drop_append]
        unfold ownO
        have e4 : (opsV l).length + 3 - (opsV l).length = 3 := by omega
        have e5 : (opsV l).length + 3 + 3 - (opsV l).length = 6 := by omega
        rw [e4, e5, List.take_of_length_le (by omega), List.drop_eq_nil_of_le (by omega)]
        simp
      rw [e2] at hst2
      obtain ⟨W4, hW4⟩ : ∃ W, W = W3.setRow wr.heap.size (ownO l).toArray := ⟨_, rfl⟩
      rw [← hW4] at hst2
      have hr4 : W4.heap[wr.heap.size]? = some (.cells (ownO l).toArray 34) := by rw [hW4]; exact setRow_heap _ _ _ _ _ _ hr3
      have hbl := World.block_lt_of_cell? wr _ c1
      dsimp only at hbl
      have c4 : W3.cell? ⟨ba, bo + i, none⟩ = some (.slice (LA i) l.length (LC i)) := by
        rw [hW3]
        exact (World.cell?_of_block (setRow_other _ _ _ _ (by dsimp only; omega))).trans c2
      have c5 : W4.cell? ⟨ba, bo + i, none⟩ = some (.slice (LA i) l.length (LC i)) := by
        rw [hW4]
        exact (World.cell?_of_block (setRow_other _ _ _ _ (by dsimp only; omega))).trans c4
      have hb2 : Below wr.heap.size wr W2 := by rw [hW2]; exact below_setRow ((Below.refl _ _).alloc (Nat.le_refl _) _) (Nat.le_refl _) _
      have hb4 : Below wr.heap.size wr W4 := by rw [hW4, hW3]; exact below_setRow (below_setRow hb2 (Nat.le_refl _) _) (Nat.le_refl _) _
      have hs4 : W4.heap.size = wr.heap.size + 1 := by rw [hW4, hW3, hW2]; simp [World.setRow]
      have ho4 : W4.ownsRow B 32 1 u3 i (rowO LB ts i) := ownsRow_same hO.out.row fun g hg => hb4.block g (hO.out.row.lt g hg).2
      have g3 : (0 : Int) ≤ (l.length : Int) + 1 := by omega
      have g4 : ((l.length : Int) + 1).toNat = l.length + 1 := by omega
      have g5 : (l.length : Int) < (l.length : Int) + 2 := by omega
      have g6 : (l.length : Int) + 1 < (l.length : Int) + 2 := by omega
      have g7 : IntKind.i64.wrap ((l.length : Int) + 1) = (l.length : Int) + 1 := by rw [IntKind.wrap_i64]; omega
      have g8 : (0 : Int) ≤ (l.length : Int) := by omega
      obtain ⟨nv, hnv⟩ : ∃ nv, nv = Value.slice (some ⟨wr.heap.size, 0, none⟩) l.length (l.length + 2) := ⟨_, rfl⟩
      have hnews : ∀ j u, [nv][j]? = some u → (W4.alloc (.cells #[nv] 32)).cell? ((⟨W4.heap.size, 0, none⟩ : Addr).add j) = some u := World.news_of_block (cs := #[nv]) (t := 32) (fr := (0, 0)) (heap_alloc_new _ _)
      have hone : ∀ u ∈ [nv], u.oneCell' = true := by intro u hu; simp at hu; subst hu; rw [hnv]; rfl
      have hbW : B ≤ W4.heap.size := by omega
      rw [hnv] at hnews hone
      replace hnv := Lib.hid hnv
      replace hr3 := Lib.hid hr3
      replace hr4 := Lib.hid hr4
      replace hW3 := Lib.hid hW3
      replace hW4 := Lib.hid hW4
      replace hb2 := Lib.hid hb2
      replace hb4 := Lib.hid hb4
      replace ho4 := Lib.hid ho4
      replace hs4 := Lib.hid hs4
      clear e1 e2
      replace hr2 := Lib.hid hr2
      replace hW2 := Lib.hid hW2
      replace hZ := Lib.hid hZ
      replace hZ0 := Lib.hid hZ0
      replace hl2 := Lib.hid hl2
      replace hG := Lib.hid hG
      clear hxl
      go_wp2_with (first | (refine wpList_store rfl rfl (.tmp 33) (.tmp 32) 34 rfl rfl rfl hst1 ?_) | (refine wpList_store rfl rfl (.tmp 42) (.tmp 41) 34 rfl rfl rfl hst2 ?_) | (at_builtin; refine wpList_append_lies _ rfl _ _ _ rfl B 32 i2 _ 1 24 Try.underlying22 hi2 hz2 hs2 hb2' rfl (by decide) u3 i _ (by rfl) (ho4.out.alloc _) ⟨W4.heap.size, 0, none⟩ 1 1 [_] (by rfl) (by rfl) hnews hone (by omega) (by unfold maxLen; omega) (by omega) (by rw [alloc_size]; omega) _ rfl ?_; intro gg cp w5 ho5 hgrow hat hlt5))
      have hO1 := hO.out
      have hlt' : ∀ k, k < i → LB k < wr.heap.size := fun k hk => by
        have := hO1.ops k _ hk (List.getElem?_eq_getElem (by omega))
        exact (Array.getElem?_eq_some_iff.1 this).1
      have hub : ∀ g, u3.ownBlock = some g → g < wr.heap.size := fun g hg => (hO1.row.lt g hg).2
      have hs4' := hs4.out
      have hblk : ∀ (b : Nat), b < W4.heap.size → u3.ownBlock ≠ some b → w5.heap[b]? = W4.heap[b]? := fun b h1 h2 => by
        rw [hgrow.block b (by rw [alloc_size]; omega) (Ne.symm h2)]
        exact alloc_old h1
      have hgg : ∀ k, k < i → gg ≠ LB k := fun k hk e => by
        rcases hat with h | h
        · exact hO1.ne k hk (by rw [h, e])
        · have := hlt' k hk
          rw [alloc_size] at h
          omega
      have hgi : gg ≠ wr.heap.size := fun e => by
        rcases hat with h | h
        · have := hub _ h
          omega
        · rw [alloc_size] at h
          omega
      have hlen : lenOf ts i = l.length := by unfold lenOf; rw [hl]; rfl
      have hn : OwnT B w5 (.slice (some ⟨gg, 0, none⟩) (i + 1) cp) (fun k => if k = i then wr.heap.size else LB k) ts (i + 1) := by
        refine ⟨?_, fun k hk => ?_, fun k hk => ?_, fun k k' hk hk' e => ?_, fun k l' hk hl' => ?_⟩
        · have e : rowO (fun k => if k = i then wr.heap.size else LB k) ts (i + 1) = rowO LB ts i ++ [.slice (some ⟨wr.heap.size, 0, none⟩) l.length (l.length + 2)] := by
            unfold rowO
            rw [List.range_succ, List.map_append]
            congr 1
            · refine List.map_congr_left fun k hk => ?_
              have := List.mem_range.1 hk
              show Value.slice (some ⟨if k = i then wr.heap.size else LB k, 0, none⟩) _ _ = _
              rw [if_neg (by omega)]
            · simp [hlen]
          rw [e]
          exact ho5
        · split
          · exact hbs
          · exact hO1.up k (by omega)
        · intro e
          have e' : gg = if k = i then wr.heap.size else LB k := by simpa [Value.ownBlock] using e
          by_cases h : k = i
          · rw [if_pos h] at e'; exact hgi e'
          · rw [if_neg h] at e'; exact hgg k (by omega) e'
        · by_cases h : k = i
          · by_cases h' : k' = i
            · omega
            · rw [if_pos h, if_neg h'] at e
              have := hlt' k' (by omega)
              omega
          · by_cases h' : k' = i
            · rw [if_neg h, if_pos h'] at e
              have := hlt' k (by omega)
              omega
            · rw [if_neg h, if_neg h'] at e
              exact hO1.inj k k' (by omega) (by omega) e
        · by_cases h : k = i
          · subst h
            rw [if_pos rfl]
            rw [hl] at hl'
            cases hl'
            rw [hblk _ (by omega) (fun e => Nat.lt_irrefl _ (hub _ e))]
            exact hr4.out
          · rw [if_neg h]
            have h1 := hlt' k (by omega)
            rw [hblk _ (by omega) (hO1.ne k (by omega)), hb4.out.block _ h1]
            exact hO1.ops k l' (by omega) hl'
      have hb5 : Below B x w5 := ((hb.out.trans (hb4.out.mono hbs)).alloc hbW _).grown hgrow (by rw [alloc_size]; omega) (fun k hk => (hO1.row.lt k hk).1)
      have hs5 : B ≤ w5.heap.size := by have := hb5.size; have := hgrow.size; rw [alloc_size] at this; omega
      have e9 : natOfV (.int .i64 ((i : Int) + 1)) = i + 1 := by simp [natOfV]
      exact ⟨⟨i + 1, _, by rw [Int.natCast_add]; rfl, by omega, hn, hb5, hs5⟩, by rw [e9]; simp [natOfV]; omega⟩
    · obtain rfl : i = ts.length := by omega
      have g1 : ¬ (ts.length : Int) < (ts.length : Int) := by omega
      go_wp2
      go_ret
      exact ⟨_, rfl, hb.out, LB, hO.out⟩
#print axioms copied_wp
end Go.Proofs.Ytimlbbleblijnaa.Co

namespace Go.Proofs.Ytimlbbleblijnaa.Co
open Go Go.Conc Go.RowKit
open Go.ConcN (sumTo upd sumTo_upd upd_ne upd_same sumTo_congr le_sumTo)
set_option linter.unusedVariables false
set_option linter.unusedSimpArgs false
theorem ownO_op {l : List Op3} {j : Nat} {o : Op3} (h : l[j]? = some o) : (ownO l)[j * 3]? = some (.int .i64 o.1) ∧ (ownO l)[j * 3 + 1]? = some (.int .i64 o.2.1) ∧ (ownO l)[j * 3 + 2]? = some (.int .i64 o.2.2) := by
  have hj := (List.getElem?_eq_some_iff.1 h).1
  have e : ∀ k, k < 3 → (ownO l)[j * 3 + k]? = (opV o)[k]? := fun k hk => by
    unfold ownO
    rw [List.getElem?_append_left (by rw [opsV_len]; omega)]
    exact opsV_get h hk
  exact ⟨e 0 (by decide), e 1 (by decide), e 2 (by decide)⟩
theorem ownO_end (l : List Op3) (k : Nat) : (ownO l)[l.length * 3 + k]? = [Value.int .i64 91, .int .i64 0, .int .i64 0, .int .i64 92, .int .i64 0, .int .i64 0][k]? := by
  unfold ownO
  rw [List.getElem?_append_right (by rw [opsV_len]; omega), opsV_len]
  congr 1
  omega
theorem rowO_get {LB : Nat → Nat} {ts : List (List Op3)} {n i : Nat} (hi : i < n) : (rowO LB ts n)[i]? = some (.slice (some ⟨LB i, 0, none⟩) (lenOf ts i) (lenOf ts i + 2)) := by
  unfold rowO
  rw [List.getElem?_map, List.getElem?_range hi]
  rfl
theorem owns_cells {x : World} {B e n : Nat} {v : Value} {xs : List Value} (h : x.ownsRow B e 1 v n xs) : ∃ (A : Option Addr) (g cap : Nat), v = .slice A n cap ∧ (0 < n → A = some ⟨g, 0, none⟩) ∧ (0 < n → v.ownBlock = some g) ∧ ∀ i u, xs[i]? = some u → x.cell? ⟨g, i, none⟩ = some u := by
  obtain ⟨h1, h2⟩ := h
  rcases h2 with ⟨rfl, h0⟩ | ⟨g, cap, cur, rfl, hb, hg, _, _, _, ht⟩
  · have : xs = [] := List.eq_nil_of_length_eq_zero (by rw [h1, h0])
    subst this
    exact ⟨none, 0, 0, by rw [h0], fun h => by omega, fun h => by omega, fun i u hu => by simp at hu⟩
  · refine ⟨_, g, cap, rfl, fun _ => rfl, fun _ => rfl, fun i u hu => ?_⟩
    rw [← ht] at hu
    refine obj_cell hg ?_
    rw [← Array.getElem?_toList]
    rw [List.getElem?_take] at hu
    split at hu
    · exact hu
    · cases hu
set_option maxRecDepth 100000 in
set_option maxHeartbeats 4000000 in
theorem stayed_wp {x : World} {B : Nat} {ov : Value} {LB : Nat → Nat} {ta : Option Addr} {ba bo cap : Nat} {LA : Nat → Option Addr} {LC : Nat → Nat} {ts : List (List Op3)} (hO : OwnT B x ov LB ts ts.length) (hT : OpsX x ta ba bo LA LC ts) (hn : ts.length ≤ 1000000000000) (hll : ∀ l ∈ ts, l.length ≤ 100000000000) :
    Calls Try.prog 23 #[ov, .slice ta ts.length cap] x fun e x' => e = .returned (.bool true) ∧ ∃ k, x' = x.drewN k := by
  obtain ⟨A, g, ocap, rfl, hA, hAb, hcs⟩ := owns_cells hO.row
  have hops := hO.ops
  replace hT := Lib.hid hT
  replace hO := Lib.hid hO
  replace hcs := Lib.hid hcs
  replace hops := Lib.hid hops
  go_enter Try.func23, Try.ntmps23
  go_wp2_with fail
  go_loopw [5] (fun v wr => ∃ i : Nat, v = .int .i64 (i : Int) ∧ i ≤ ts.length ∧ ∃ k, wr = x.drewN k) (fun v _ => ts.length + 1 - natOfV v)
  case atStart => exact ⟨0, rfl, Nat.zero_le _, 0, rfl⟩
  case round =>
    obtain ⟨i, rfl, hi, k0, rfl⟩ := hrel
    by_cases hlt : i < ts.length
    · obtain rfl := hT.out.ta (by omega)
      obtain rfl := hA (by omega)
      have g1 : (i : Int) < (ts.length : Int) := by omega
      have g2 : (0 : Int) ≤ (i : Int) := by omega
      have hiw : IntKind.i64.wrap ((i : Int) + 1) = ((i + 1 : Nat) : Int) := by rw [IntKind.wrap_i64]; omega
      obtain ⟨l, hl⟩ : ∃ l, ts[i]? = some l := ⟨_, List.getElem?_eq_getElem hlt⟩
      have hlen : lenOf ts i = l.length := by unfold lenOf; rw [hl]; rfl
      have hlb := hll l (List.mem_of_getElem? hl)
      have c1 := hT.out.row i l hl
      have c2 := hcs.out i _ (rowO_get hlt)
      rw [hlen] at c2
      have hrow := hops.out i l hlt hl
      have oc : ∀ j u, (ownO l)[j]? = some u → x.cell? ⟨LB i, j, none⟩ = some u := fun j u hu => obj_cell hrow (by rw [← Array.getElem?_toList]; exact hu)
      have q1 : IntKind.i64.wrap ((l.length : Int) + 2) = ((l.length + 2 : Nat) : Int) := by rw [IntKind.wrap_i64]; omega
      have q2 : (0 : Int) ≤ ((l.length + 2 : Nat) : Int) := by omega
      replace hrow := Lib.hid hrow
      replace oc := Lib.hid oc
      replace hlen := Lib.hid hlen
      go_wp2_with fail
      go_loopw [8] (fun v wr => ∃ j : Nat, v = .int .i64 (j : Int) ∧ j ≤ l.length ∧ ∃ k, wr = x.drewN k) (fun v _ => l.length + 1 - natOfV v)
      case atStart => exact ⟨0, rfl, Nat.zero_le _, k0, rfl⟩
      case round =>
        obtain ⟨j, rfl, hj, k1, rfl⟩ := hrel
        by_cases hjl : j < l.length
        · obtain ⟨⟨o1, o2, o3⟩, ho⟩ : ∃ o, l[j]? = some o := ⟨_, List.getElem?_eq_getElem hjl⟩
          obtain ⟨la, lo, e1, e2⟩ := hT.out.ops i l hl (fun e => by rw [e] at hjl; exact absurd hjl (Nat.not_lt_zero _))
          rw [e1] at c1
          obtain ⟨a1, a2, a3⟩ := e2 j _ ho
          obtain ⟨b1, b2, b3⟩ := ownO_op ho
          replace b1 := oc.out _ _ b1
          replace b2 := oc.out _ _ b2
          replace b3 := oc.out _ _ b3
          dsimp only at a1 a2 a3 b1 b2 b3
          have g3 : (j : Int) < (l.length : Int) := by omega
          have g4 : (0 : Int) ≤ (j : Int) := by omega
          have g5 : (j : Int) < (l.length : Int) + 2 := by omega
          have g6 : (j : Int) < ((l.length + 2 : Nat) : Int) := by omega
          have hjw : IntKind.i64.wrap ((j : Int) + 1) = ((j + 1 : Nat) : Int) := by rw [IntKind.wrap_i64]; omega
          replace e2 := Lib.hid e2
          go_wp2
          go_quiet (fail)
          go_wp2
          have e9 : natOfV (.int .i64 ((j : Int) + 1)) = j + 1 := by simp [natOfV]
          exact ⟨⟨j + 1, by rw [Int.natCast_add]; rfl, by omega, _, rfl⟩, by rw [e9]; simp [natOfV]; omega⟩
        · obtain rfl : j = l.length := by omega
          have g3 : ¬ (l.length : Int) < (l.length : Int) := by omega
          have e1 := fun k u h => oc.out (l.length * 3 + k) u ((ownO_end l k).trans h)
          have a1 := e1 0 _ rfl
          have a2 := e1 1 _ rfl
          have a3 := e1 2 _ rfl
          have a4 := e1 3 _ rfl
          have a5 := e1 4 _ rfl
          have a6 := e1 5 _ rfl
          rw [Nat.add_zero] at a1
          rw [show l.length * 3 + 3 = (l.length + 1) * 3 by omega] at a4
          rw [show l.length * 3 + 4 = (l.length + 1) * 3 + 1 by omega] at a5
          rw [show l.length * 3 + 5 = (l.length + 1) * 3 + 2 by omega] at a6
          have g4 : (0 : Int) ≤ (l.length : Int) + 1 := by omega
          have g5 : ((l.length : Int) + 1).toNat = l.length + 1 := by omega
          have g6 : (l.length : Int) < (l.length : Int) + 2 := by omega
          have g7 : (l.length : Int) + 1 < (l.length : Int) + 2 := by omega
          have g8 : IntKind.i64.wrap ((l.length : Int) + 1) = (l.length : Int) + 1 := by rw [IntKind.wrap_i64]; omega
          have g9 : (0 : Int) ≤ (l.length : Int) := by omega
          clear e1
          go_wp2
          have e9 : natOfV (.int .i64 ((i : Int) + 1)) = i + 1 := by simp [natOfV]
          exact ⟨⟨i + 1, by rw [Int.natCast_add]; rfl, by omega, _, rfl⟩, by rw [e9]; simp [natOfV]; omega⟩
    · obtain rfl : i = ts.length := by omega
      have g1 : ¬ (ts.length : Int) < (ts.length : Int) := by omega
      go_wp2
      go_ret
      exact ⟨rfl, k0, rfl⟩
#print axioms stayed_wp
end Go.Proofs.Ytimlbbleblijnaa.Co

namespace Go.Proofs.Ytimlbbleblijnaa.Co
open Go Go.Conc Go.RowKit
open Go.ConcN (sumTo upd sumTo_upd upd_ne upd_same sumTo_congr le_sumTo)
set_option linter.unusedVariables false
set_option linter.unusedSimpArgs false
theorem sumTo_bound {f : Nat → Nat} {B : Nat} : ∀ n, (∀ i, i < n → f i ≤ B) → sumTo n f ≤ n * B
  | 0, _ => Nat.zero_le _
  | n + 1, h => by
    have h1 := sumTo_bound n (fun i hi => h i (by omega))
    have h2 := h n (by omega)
    have e : sumTo (n + 1) f = sumTo n f + f n := rfl
    rw [e, Nat.add_mul, Nat.one_mul]
    omega
theorem sumTo_zero : ∀ n, sumTo n (fun _ => 0) = 0
  | 0 => rfl
  | n + 1 => by
    have e : sumTo (n + 1) (fun _ => 0) = sumTo n (fun _ => 0) + 0 := rfl
    rw [e, sumTo_zero n]
theorem owns_form {x : World} {B e n : Nat} {v : Value} {xs : List Value} (h : x.ownsRow B e 1 v n xs) : ∃ aa cap, v = .slice aa n cap ∧ (0 < n → ∃ g, aa = some ⟨g, 0, none⟩ ∧ B ≤ g ∧ ∀ i u, xs[i]? = some u → x.cell? ⟨g, 0 + i, none⟩ = some u) := by
  obtain ⟨h1, h2⟩ := h
  rcases h2 with ⟨rfl, rfl⟩ | ⟨g, cap, cur, rfl, hb, hg, c1, c2, c3, c4⟩
  · exact ⟨none, 0, rfl, fun h => absurd h (by omega)⟩
  · refine ⟨_, cap, rfl, fun _ => ⟨g, rfl, hb, fun i u hu => ?_⟩⟩
    refine obj_cell hg ?_
    rw [← c4, List.getElem?_take] at hu
    split at hu
    · rw [Nat.zero_add]
      simpa using hu
    · cases hu
theorem owns_slice {x : World} {B e sz n : Nat} {v : Value} {xs : List Value} (h : x.ownsRow B e sz v n xs) : ∃ A cap, v = .slice A n cap := by
  obtain ⟨h1, h2⟩ := h
  rcases h2 with ⟨rfl, rfl⟩ | ⟨g, cap, cur, rfl, hb, hg, c1, c2, c3, c4⟩
  · exact ⟨none, 0, rfl⟩
  · exact ⟨_, cap, rfl⟩
theorem owns_lower {x : World} {B B' e sz n : Nat} {v : Value} {xs : List Value} (h : x.ownsRow B e sz v n xs) (hB : B' ≤ B) : x.ownsRow B' e sz v n xs := by
  obtain ⟨h1, h2⟩ := h
  refine ⟨h1, h2.imp id ?_⟩
  rintro ⟨g, cap, cur, e1, e2, r⟩
  exact ⟨g, cap, cur, e1, Nat.le_trans hB e2, r⟩
def playBs (ts : List (List Op3)) (L : List PT) (LB TB : Nat → Nat) (mb : Nat) (l : List Nat) : List (Body PS PL) := l.map fun i => ⟨clo LB TB mb i, (ts.getD i []).length, adv L i 0⟩
theorem start_pr {ts : List (List Op3)} {LB TB LA LO LC : Nat → Nat} {mb : Nat} : ∀ (m i : Nat) (x x0 : List (Option (Nat × PL)) × PS), i + m = ts.length → StartR (playBs ts (ptOf ts LB TB LA LO LC) LB TB mb (List.range' i m)) x x0 → x.1.length = i → x.2.ms = [] → x.2.cnt = (fun _ => 0) →
    (∀ t, t < i → (∃ n b, x.1[t]? = some (some (n, ⟨t, 0, b⟩)) ∧ 0 < lenOf ts t) ∨ (x.1[t]? = some none ∧ ¬ 0 < lenOf ts t)) → PR ts (x0.1, x0.2, 0) pa0
  | 0, i, x, x0, hi, h, h1, h2, h3, h4 => by
    cases h
    exact ⟨by dsimp only; omega, h2, h3, fun t ht => h4 t (by omega)⟩
  | m + 1, i, x, x0, hi, h, h1, h2, h3, h4 => by
    unfold playBs at h
    rw [List.range'_succ, List.map_cons] at h
    cases h with
    | @cons _ _ _ s' o _ hs ht =>
      dsimp only at hs ht
      have hget : ∀ (y : Option (Nat × PL)) t, t < i + 1 → (x.1 ++ [y])[t]? = if t = i then some y else x.1[t]? := fun y t ht => by
        by_cases e : t = i
        · subst e
          rw [if_pos rfl, ← h1, List.getElem?_append_right (Nat.le_refl _)]
          simp
        · rw [if_neg e, List.getElem?_append_left (by omega)]
      rcases hs with ⟨b, n, e1, e2⟩ | ⟨e1, e2⟩
      · cases e2
        have hlt := (opN_lt e1).1
        rw [opLen_of] at hlt
        refine start_pr m (i + 1) _ x0 (by omega) ht (by simp [h1]) h2 h3 (fun t hl => ?_)
        dsimp only
        rw [hget _ t hl]
        by_cases e : t = i
        · subst e
          rw [if_pos rfl]
          exact .inl ⟨_, b, rfl, hlt⟩
        · rw [if_neg e]
          exact h4 t (by omega)
      · cases e2
        rw [opLen_of] at e1
        refine start_pr m (i + 1) _ x0 (by omega) ht (by simp [h1]) h2 h3 (fun t hl => ?_)
        dsimp only
        rw [hget _ t hl]
        by_cases e : t = i
        · subst e
          rw [if_pos rfl]
          exact .inr ⟨rfl, by omega⟩
        · rw [if_neg e]
          exact h4 t (by omega)
structure PlayOut (h : Nat) (ts : List (List Op3)) (picks : List Int) (drain : Bool) (E : Env) (w : World) (E' : Env) (w' : World) (mv : Value) (ms : List Mk) : Prop where
  kept : Kept h none E w E' w'
  stands : Stands E w E' w'
  row : w'.ownsRow w.heap.size 37 4 mv ms.length (mksV ms)
  rowH : ∀ g, mv.ownBlock = some g → E'.H g = none
  many : 8 < ts.length → ms = []
  game : ts.length ≤ 8 → ∃ a' k, (playG ts).Run picks drain pa0 (a', k) ∧ a'.ms = ms
section
variable {h : Nat} {F : Machine → Trace → Prop} {E : Env} {w : World} {b₀ : Frame} {a₀ : Act} {ops₀ : Array Oper} {i₀ : Nat} {rest₀ : List Nat} {k₀ : List Item} {cl : List Frame}
theorem kc_of {E2 : Env} {w2 : World} {mb : Nat} {a : Addr} {v : Value} (h1 : w2.cell? a = some v) (h2 : E2.H a.block = none) (h3 : a.block ≠ mb) : KC (fun b o => w2.heap[b]? = some o ∧ E2.H b = none ∧ b ≠ mb) a v := by
  have hl := World.block_lt_of_cell? w2 _ h1
  refine ⟨w2.heap[a.block], ⟨Array.getElem?_eq_getElem hl, h2, h3⟩, fun w' hw' => ?_⟩
  rw [← h1]
  exact World.cell?_of_block (by rw [hw', Array.getElem?_eq_getElem hl])
theorem play_holds {ts : List (List Op3)} {picks : List Int} {drain : Bool} {tv pv : Value} (hT : OpsAt E w tv ts) (hP : IntsAt E w pv picks) (hn : ts.length ≤ 1000000000000) (hl : ∀ l ∈ ts, l.length ≤ 100000000000) (hnp : picks.length ≤ 1000000000000000) (hp64 : ∀ p ∈ picks, -9223372036854775808 ≤ p ∧ p ≤ 9223372036854775807)
    (hrole : E.role h = .gone) (hmode : ∀ b, E.mode b = 0)
    (hc : ∀ E' w' mv ms, PlayOut h ts picks drain E w E' w' mv ms → HG Try.prog h F E' (G (b₀.at (a₀.put ((ops₀[i₀]?).bind (·.dst)) mv) (.inRegion ops₀ rest₀ :: k₀)) cl) w') :
    HGn Try.prog h F E w 100 (entry 21 Try.f21 #[tv, pv, .bool drain] (b₀.at a₀ (.inRegion ops₀ (i₀ :: rest₀) :: k₀) :: cl)) := by
  obtain ⟨ta, ba, bo, cap, LA, LC, rfl, hta, hts⟩ := hT.at_
  obtain ⟨pa, pb, po, pcap, rfl, hpa, hps⟩ := hP.at_
  have hget : ∀ i, i < ts.length → ts[i]? = some (ts.getD i []) := fun i hi => by simp [List.getD, List.getElem?_eq_getElem hi]
  refine play_in (LA := LA) (LN := fun i => (ts.getD i []).length) (LC := LC) rfl hta hn (fun i hi => (hts i _ (hget i hi)).1) (fun E2 w2 T' v LB TB hE hK hold hB hmb hbx hs t1 t2 t6 t7 t8 => ?_)
  have hH2 : E2.H = E.H := hE.H'
  obtain ⟨mb, hmbe⟩ : ∃ mb, mb = w.heap.size := ⟨_, rfl⟩
  rw [← hmbe] at hmb hbx t7
  have hS2 : Stands E w E2 w2 := fun b o h1 h2 => ⟨by rw [hH2]; exact h1, by rw [hold b h1 (Array.getElem?_eq_some_iff.1 h2).1]; exact h2⟩
  have hT2 := hT.stands hS2
  have hmbH : E2.H mb = none := by rw [hH2]; exact hB mb (by omega)
  obtain ⟨aa, bcap, rfl, hvf⟩ := owns_form hbx.row
  refine play_to_run hs t1 t2 t8 (fun T2 ops i rest k hs2 hj hd hr hk => ?_)
  subst hr hk
  have t7' := (hj 7 (by decide)).trans t7
  by_cases h8 : 8 < ts.length
  · refine run_many h8 ?_
    refine play_out hs2 t7' (obj_cell (v := .slice none 0 0) hmb rfl) hmbH hd (fun E3 w3 hE3 hK3 hold3 => ?_)
    have hH3 : E3.H = E2.H := hE3.H'
    refine hc E3 w3 _ [] ⟨hK.trans hK3, hS2.trans (fun b o h1 h2 => ⟨by rw [hH3]; exact h1, by rw [hold3 b h1 (Array.getElem?_eq_some_iff.1 h2).1]; exact h2⟩), ⟨by simp [mksV], .inl ⟨rfl, rfl⟩⟩, fun g e => (by cases e), fun _ => rfl, fun h => absurd h (by omega)⟩
  · have hN8 : ts.length ≤ 8 := by omega
    let la : Nat → Nat := fun i => ((LA i).map (·.block)).getD 0
    let lo : Nat → Nat := fun i => ((LA i).map (·.off)).getD 0
    obtain ⟨L, hL⟩ : ∃ L, L = ptOf ts LB TB la lo LC := ⟨_, rfl⟩
    obtain ⟨K, hKe⟩ : ∃ K : Nat → Obj → Prop, K = fun b o => w2.heap[b]? = some o ∧ E2.H b = none ∧ b ≠ mb := ⟨_, rfl⟩
    have kc : ∀ {a : Addr} {v : Value}, w2.cell? a = some v → E2.H a.block = none → a.block ≠ mb → KC K a v := fun h1 h2 h3 => by rw [hKe]; exact kc_of h1 h2 h3
    have kold : ∀ {a : Addr} {v : Value}, w.cell? a = some v → E.H a.block = none → KC K a v := fun {a v} h1 h2 => by
      obtain ⟨q1, q2⟩ := hS2.cell h1 h2
      exact kc q1 q2 (by have := World.block_lt_of_cell? w _ h1; omega)
    have hlen : ∀ i, i < ts.length → (ts.getD i []).length ≤ 100000000000 := fun i hi => hl _ (List.mem_of_getElem? (hget i hi))
    have hbound : sumTo L.length (opLen L) ≤ 1000000000000 := by
      have h1 := sumTo_bound (f := opLen L) (B := 100000000000) L.length (fun i hi => by
        rw [hL, opLen_of]
        rw [hL, ptOf_len] at hi
        unfold lenOf
        rw [hget i hi]
        exact hlen i hi)
      have h2 : L.length ≤ 8 := by rw [hL, ptOf_len]; exact hN8
      have h3 : L.length * 100000000000 ≤ 8 * 100000000000 := Nat.mul_le_mul_right _ h2
      omega
    have hPT : ∀ i, i < ts.length → PTok K L i ⟨TB i, LB i, la i, lo i, LC i, ts.getD i []⟩ := fun i hi => by
      obtain ⟨b1, b2, b3, b4, b5, b6⟩ := hbx.box i hi
      obtain ⟨_, hops⟩ := hts i _ (hget i hi)
      have hbl : ∀ hne : ts.getD i [] ≠ [], LA i = some ⟨la i, lo i, none⟩ := fun hne => by
        obtain ⟨x, y, e1, _, _⟩ := hops hne
        show LA i = some ⟨((LA i).map (·.block)).getD 0, ((LA i).map (·.off)).getD 0, none⟩
        rw [e1]; rfl
      refine ⟨by rw [hL]; exact ptOf_get hi, kc b2 (by rw [hH2]; exact hB _ (by dsimp only; omega)) (by dsimp only; omega), ⟨LA i, kc b1 (by rw [hH2]; exact hB _ (by dsimp only; omega)) (by dsimp only; omega), hbl⟩, fun j op hj => ?_, ?_⟩
      · have hne : ts.getD i [] ≠ [] := fun e => by
          have hj' : (ts.getD i [])[j]? = some op := hj
          rw [e] at hj'; cases hj'
        obtain ⟨x, y, e1, e2, e3⟩ := hops hne
        have e4 := hbl hne
        rw [e1] at e4
        injection e4 with e5
        injection e5 with e6 e7 _
        subst e6 e7
        obtain ⟨c1, c2, c3⟩ := e3 j op hj
        exact ⟨kold c1 e2, kold c2 e2, kold c3 e2⟩
      · have := hlen i hi
        dsimp only
        omega
    obtain ⟨bs, hbs⟩ : ∃ bs, bs = playBs ts L LB TB mb (List.range ts.length) := ⟨_, rfl⟩
    have hbl : bs.length = ts.length := by rw [hbs]; simp [playBs]
    have hbg : ∀ i b, bs[i]? = some b → i < ts.length ∧ b = ⟨clo LB TB mb i, (ts.getD i []).length, adv L i 0⟩ := fun i b e => by
      have hi : i < ts.length := by rw [← hbl]; exact (List.getElem?_eq_some_iff.1 e).1
      refine ⟨hi, ?_⟩
      rw [hbs] at e
      unfold playBs at e
      rw [List.getElem?_map, List.getElem?_range hi] at e
      exact (Option.some.inj e).symm
    have hM : PlayM mb K L ⟨[], [], fun _ => 0⟩ E2 w2 := by
      refine ⟨hmbH, fun b o hk => by rw [hKe] at hk; exact hk, ⟨.slice none 0 0, hmb, ⟨by simp [mksV], .inl ⟨rfl, rfl⟩⟩, fun g e => (by cases e)⟩, fun ob ho => (by cases ho), by rw [sumTo_zero]; rfl, fun t => Nat.zero_le _⟩
    rw [← hbl]
    refine run_holds (D := playD mb K L) (s := ⟨[], [], fun _ => 0⟩) (bs := bs) (picks := picks) (drain := drain) (ba := (aa.map (·.block)).getD 0) (bo := 0) (pb := pb) (po := po) (by rw [hbl]; exact hN8) hnp (fun b hb => ?_) (fun hne => ?_) hpa hp64 (fun s E' w' m i b hi => ?_) (fun s E' w' m i p hi => ?_) (fun i b hi => ?_) (fun i b hi => ?_) (fun _ _ => rfl) (hE.roleH.trans hrole) (fun b => hE.mode b (hmode b)) hM (fun z E' w' hz kk m => ?_)
    · obtain ⟨i, hi⟩ := List.mem_iff_getElem?.1 hb
      obtain ⟨hi', rfl⟩ := hbg i b hi
      have := hlen i hi'
      dsimp only
      omega
    · have : 0 < ts.length := by rw [← hbl]; exact List.length_pos_iff.2 hne
      obtain ⟨g, rfl, _⟩ := hvf this
      rfl
    · obtain ⟨hi', rfl⟩ := hbg i b hi
      obtain ⟨g, rfl, hg1, hg2⟩ := hvf (by omega)
      have h1 := hg2 i (clo LB TB mb i) (by rw [List.getElem?_map, List.getElem?_range hi']; rfl)
      have m' : PlayM mb K L s E' w' := m
      obtain ⟨k1, k2, _⟩ := m'.konst _ _ (kc h1 (by rw [hH2]; exact hB _ (by dsimp only; omega)) (by dsimp only; omega))
      exact ⟨k1, k2⟩
    · have m' : PlayM mb K L s E' w' := m
      obtain ⟨q1, q2⟩ := hps i p hi
      obtain ⟨k1, k2, _⟩ := m'.konst _ _ (kold q1 q2)
      exact ⟨k1, k2⟩
    · obtain ⟨hi', rfl⟩ := hbg i b hi
      exact bornV_clo (fb := 67) (fn := Try.f67) Try.func67 rfl rfl (play_born (hPT i hi') hbound)
    · obtain ⟨hi', rfl⟩ := hbg i b hi
      exact play_start i
    · have m' : PlayM mb K L z.1 E' w' := m
      obtain ⟨mv, r1, r2, r3⟩ := m'.row
      obtain ⟨A, mcap, rfl⟩ := owns_slice r2
      refine play_out hs2 t7' (obj_cell (v := .slice A z.1.ms.length mcap) r1 rfl) m'.mbH hd (fun E3 w3 hE3 hK3 hold3 => ?_)
      have hH3 : E3.H = E'.H := hE3.H'
      have hS3 : Stands E w E' w' := fun b o h1 h2 => by
        obtain ⟨a1, a2⟩ := hS2 b o h1 h2
        have hlt := (Array.getElem?_eq_some_iff.1 h2).1
        obtain ⟨k1, k2, _⟩ := m'.kobj b o (by rw [hKe]; exact ⟨a2, a1, by omega⟩)
        exact ⟨k2, k1⟩
      refine hc E3 w3 _ z.1.ms ⟨(hK.trans kk).trans hK3, hS3.trans (fun b o h1 h2 => ⟨by rw [hH3]; exact h1, by rw [hold3 b h1 (Array.getElem?_eq_some_iff.1 h2).1]; exact h2⟩), ?_, fun g e => ?_, fun h => absurd h h8, fun _ => ?_⟩
      · refine owns_lower (ownsRow_same r2 (fun g hg => hold3 g (r3 g hg).1 (r2.lt g hg).2)) (by omega)
      · rw [hH3]; exact (r3 g e).1
      · have p1 : ∀ x0, StartR bs ([], ⟨[], [], fun _ => 0⟩) x0 → PR ts (x0.1, x0.2, 0) pa0 := fun x0 hx0 => by
          rw [hbs, hL, List.range_eq_range'] at hx0
          exact start_pr ts.length 0 _ x0 (by omega) hx0 rfl rfl rfl (fun t ht => absurd ht (by omega))
        have p2 : bs.length = 0 → PR ts ([], ⟨[], [], fun _ => 0⟩, 0) pa0 := fun h0 => ⟨by dsimp only [List.length_nil]; omega, rfl, rfl, fun t ht => absurd ht (by omega)⟩
        obtain ⟨a', st, hr, hg⟩ := Sim.run (R := PR ts) (G := playG ts) (D := playD mb K L) (by rw [hL]; exact play_sim) hz hbl pa0 p1 p2
        exact ⟨a', _, hg, hr.ms.symm⟩
#print axioms play_holds
end
end Go.Proofs.Ytimlbbleblijnaa.Co

namespace Go.Proofs.Ytimlbbleblijnaa.Co
open Go Go.Conc Go.RowKit
open Go.ConcN (sumTo upd sumTo_upd upd_ne upd_same sumTo_congr le_sumTo)
set_option linter.unusedVariables false
set_option linter.unusedSimpArgs false
theorem mksV_cons (m : Mk) (ms : List Mk) : mksV (m :: ms) = mkV m ++ mksV ms := by simp [mksV]
theorem mksV_len : ∀ ms : List Mk, (mksV ms).length = ms.length * 4
  | [] => rfl
  | m :: ms => by
    rw [mksV_cons, List.length_append, mksV_len ms, List.length_cons]
    show 4 + _ = _
    omega
theorem mksV_set : ∀ (ms : List Mk) (i : Nat) (m : Mk), i < ms.length → mksV (ms.set i m) = (mksV ms).take (i * 4) ++ mkV m ++ (mksV ms).drop (i * 4 + 4)
  | [], i, m, h => by simp at h
  | m0 :: ms, 0, m, h => by
    rw [List.set_cons_zero, mksV_cons, mksV_cons, Nat.zero_mul, List.take_zero, List.nil_append, Nat.zero_add]
    congr 1
  | m0 :: ms, i + 1, m, h => by
    rw [List.set_cons_succ, mksV_cons, mksV_cons, mksV_set ms i m (by simpa using h)]
    have e0 : (mkV m0).length = 4 := rfl
    have e1 : List.take ((i + 1) * 4) (mkV m0 ++ mksV ms) = mkV m0 ++ List.take (i * 4) (mksV ms) := by
      rw [List.take_append, e0, List.take_of_length_le (by rw [e0]; omega)]
      congr 2
      omega
    have e2 : List.drop ((i + 1) * 4 + 4) (mkV m0 ++ mksV ms) = List.drop (i * 4 + 4) (mksV ms) := by
      rw [List.drop_append, e0, List.drop_eq_nil_of_le (by rw [e0]; omega), List.nil_append]
      congr 1
      omega
    rw [e1, e2]
    simp only [List.append_assoc]
theorem store_run4 {P : Program} {w : World} {g o : Nat} {T t : TypeId} {i : TypeInfo} {cur : List Value} (a b c d : Value) (hi : P.info? T = some i) (hs : i.size = 4) (hg : w.heap[g]? = some (.cells cur.toArray t (0, 0))) (hfit : o + 4 ≤ cur.length) (h1 : a.oneCell' = true) (h2 : b.oneCell' = true) (h3 : c.oneCell' = true) (h4 : d.oneCell' = true) :
    (Instr.storeAt T (.pointer (some ⟨g, o, none⟩)) (.agg #[a, b, c, d])).run P w = .ok () (w.setRow g (cur.take o ++ [a, b, c, d] ++ cur.drop (o + 4)).toArray) := by
  have hst := run_storeCells_at P g o t [a, b, c, d] 0 cur.toArray w hg (by simpa using hfit) (by simp [h1, h2, h3, h4])
  simp only [Nat.add_zero] at hst
  have e : (Sem.run P (Go.sizeOf T) w) = .ok 4 w := by simp [Go.sizeOf, typeInfo, hi, hs]
  have e2 : (Sem.run P (Instr.sureAddr (Value.pointer (some ⟨g, o, none⟩))) w) = .ok ⟨g, o, none⟩ w := rfl
  unfold Instr.storeAt storeVar
  simp only [Sem.run_bind, Result.andThen_ok, Value.cells, e, e2]
  exact hst
theorem owns_store {w : World} {B cap g i : Nat} {ms : List Mk} (m : Mk) (h : w.ownsRow B 37 4 (.slice (some ⟨g, 0, none⟩) ms.length cap) ms.length (mksV ms)) (hi : i < ms.length) :
    ∃ w', (Instr.storeAt 37 (.pointer (some ⟨g, i * 4, none⟩)) (.agg #[.int .i64 m.1, .int .i64 m.2.1, .int .i64 m.2.2.1, .int .i64 m.2.2.2])).run Try.prog w = .ok () w' ∧ w'.ownsRow B 37 4 (.slice (some ⟨g, 0, none⟩) ms.length cap) ms.length (mksV (ms.set i m)) ∧ (∀ b, b ≠ g → w'.heap[b]? = w.heap[b]?) ∧ w'.heap.size = w.heap.size := by
  obtain ⟨i0, hi0, _, hs0, _⟩ := info37
  obtain ⟨h1, h2⟩ := h
  rcases h2 with ⟨e, _⟩ | ⟨g', cap', cur, e, hb, hg, hn, hc, hcs, ht⟩
  · cases e
  · cases e
    have hg' : w.heap[g]? = some (.cells cur.toList.toArray 37 (0, 0)) := by rw [Array.toArray_toList]; exact hg
    have hcl : cur.toList.length = cap * 4 := by rw [Array.length_toList]; exact hcs
    refine ⟨_, store_run4 (P := Try.prog) (o := i * 4) (.int .i64 m.1) (.int .i64 m.2.1) (.int .i64 m.2.2.1) (.int .i64 m.2.2.2) hi0 hs0 hg' (by omega) rfl rfl rfl rfl, ⟨by rw [mksV_len, List.length_set], .inr ⟨g, cap, _, rfl, hb, setRow_heap _ _ _ _ _ _ hg', hn, hc, ?_, ?_⟩⟩, fun b hb => setRow_other _ _ _ _ hb, by simp [World.setRow]⟩
    · rw [List.size_toArray]
      simp only [List.length_append, List.length_take, List.length_drop, List.length_cons, List.length_nil]
      omega
    · rw [mksV_set ms i m hi, ← ht]
      show List.take (ms.length * 4) (List.take (i * 4) cur.toList ++ mkV m ++ List.drop (i * 4 + 4) cur.toList) = _
      have e0 : (mkV m).length = 4 := rfl
      have e1 : (List.take (i * 4) cur.toList).length = i * 4 := by rw [List.length_take]; omega
      have e2 : List.take (ms.length * 4) (List.take (i * 4) cur.toList) = List.take (i * 4) (List.take (ms.length * 4) cur.toList) := by
        rw [List.take_take, List.take_take, Nat.min_comm]
      have e3 : List.take (ms.length * 4 - i * 4 - 4) (List.drop (i * 4 + 4) cur.toList) = List.drop (i * 4 + 4) (List.take (ms.length * 4) cur.toList) := by
        rw [List.drop_take]
        have : ms.length * 4 - i * 4 - 4 = ms.length * 4 - (i * 4 + 4) := by omega
        rw [this]
      rw [List.append_assoc, List.append_assoc, List.take_append, List.take_append, e1, e0, e2, e3, List.take_of_length_le (l := mkV m) (by omega)]
theorem fill_set {ms : List Mk} {m : Mk} {i : Nat} (hi : i < ms.length) : (List.replicate i m ++ ms.drop i).set i m = List.replicate (i + 1) m ++ ms.drop (i + 1) := by
  rw [List.set_append_right _ _ (by simp), List.length_replicate, Nat.sub_self, List.drop_eq_getElem_cons hi, List.set_cons_zero, List.replicate_succ', List.append_assoc]
  rfl
theorem wpList_append_both {w : World} {ops : Array Oper} {rest : List Oper} {o : Oper} {a : Act} {Q : Exit → Act → World → Prop} (hgd : o.guard = none) (s x : Operand)
    (ho : o.op = .call { callee := .builtin .append, args := #[s, x], argTypes := #[27, 27] }) (v : Value) (n : Nat) (ms : List Mk) (m : Mk) (hs : a.eval s = v) (hn : ms.length = n) (hown : w.ownsRow 0 37 4 v n (mksV ms))
    (ad : Addr) (hx : a.eval x = .slice (some ad) 1 1) (hnews : ∀ j u, (mkV m)[j]? = some u → w.cell? (ad.add j) = some u) (hb : n ≤ 1000000000000)
    (h : ∀ v' w', w'.ownsRow 0 37 4 v' (n + 1) (mksV (ms ++ [m])) → ((v'.ownBlock = v.ownBlock ∧ w.grownBy w' v.ownBlock) ∨ ((∀ g, v'.ownBlock = some g → w.heap.size ≤ g) ∧ w.grownBy w' none)) → wpList Try.prog ops Q rest (a.put o.dst v') w') : wpList Try.prog ops Q (o :: rest) a w := by
  obtain ⟨i0, hi0, hz0, hs0, hb0⟩ := info37
  have hone : ∀ u ∈ mkV m, u.oneCell' = true := by intro u hu; simp [mkV] at hu; rcases hu with rfl | rfl | rfl | rfl <;> rfl
  have emk : mksV (ms ++ [m]) = mksV ms ++ mkV m := mksV_snoc ms m
  rcases hown.2 with ⟨rfl, h0⟩ | ⟨g, cap, cur, rfl, hbg, hg, hnc, hcm, hcs, ht⟩
  · subst h0
    refine wpList_append_grows w hgd s x 27 ho 37 i0 _ 4 32 Try.underlying27 hi0 hz0 hs0 hb0 rfl (by decide) none 0 0 (mksV ms) hs (fun _ => ⟨rfl, rfl⟩) hown.1 (fun b e => by cases e) ad 1 1 (mkV m) hx rfl hnews hone (by omega) (by decide) (by decide) (fun v' w' h1 h2 => ?_)
    rw [← emk] at h1
    exact h v' w' (owns_lower h1 (Nat.zero_le _)) (.inr ⟨fun g hg => (h1.lt g hg).1, h2⟩)
  · by_cases hroom : n + 1 ≤ cap
    · obtain ⟨w', r1, r2, r3⟩ := run_append_fits (P := Try.prog) (w := w) 0 27 o.type 37 i0 4 Try.underlying27 hi0 hs0 g n cap (mksV ms) hown ad 1 1 (mkV m) rfl hnews hone hroom
      refine wpList_plain hgd fun K hK => ?_
      unfold Oper.wp
      simp [execOp, ho, resolve, invoke, builtin, hs, hx, r1, Result.andThen]
      refine hK _ _ (h _ w' (by rw [emk]; exact r2) (.inl ⟨rfl, r3⟩))
    · refine wpList_append_grows w hgd s x 27 ho 37 i0 _ 4 32 Try.underlying27 hi0 hz0 hs0 hb0 rfl (by decide) (some ⟨g, 0, none⟩) n cap (mksV ms) hs (fun e => by cases e) hown.1 (fun b e => ?_) ad 1 1 (mkV m) hx rfl hnews hone (by omega) (by unfold maxLen; omega) (by omega) (fun v' w' h1 h2 => ?_)
      · cases e
        intro j u hu
        have := MksAt.of_owns (ms := ms) (by rw [hn]; exact hown)
        obtain ⟨A, g', cap', e1, e2, e3⟩ := this
        have hp : 0 < ms.length := by
          cases ms with
          | nil => cases j <;> cases hu
          | cons m ms => exact Nat.succ_pos _
        have e4 := e2 hp
        cases e1
        cases e4
        have e : (⟨g, 0, none⟩ : Addr).add j = ⟨g, j, none⟩ := by unfold Addr.add; split <;> simp_all
        rw [e]
        exact e3 j u hu
      · rw [← emk] at h1
        exact h v' w' (owns_lower h1 (Nat.zero_le _)) (.inr ⟨fun g hg => (h1.lt g hg).1, h2⟩)
end Go.Proofs.Ytimlbbleblijnaa.Co
