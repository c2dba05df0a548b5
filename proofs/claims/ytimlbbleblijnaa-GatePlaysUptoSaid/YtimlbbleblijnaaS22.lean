/- Lemmas for the laws of this seat, laid together of PGeh, PGch, PGcj, PGei, PGej. -/
import Derived.Test.YtimlbbleblijnaaS21
import Derived.Conc.LeavingOf
import Derived.Below
import Derived.JoinedCond

namespace Go.Proofs.Ytimlbbleblijnaa.Co
open Go Go.Conc Go.RowKit
open Go.ConcN (sumTo upd sumTo_upd upd_ne upd_same sumTo_congr le_sumTo)
set_option linter.unusedVariables false
set_option linter.unusedSimpArgs false
theorem owns_store' {w : World} {B cap g i n : Nat} {ms : List Mk} (m : Mk) (h : w.ownsRow B 37 4 (.slice (some ⟨g, 0, none⟩) n cap) n (mksV ms)) (hl : ms.length = n) (hi : i < n) :
    ∃ w', (Instr.storeAt 37 (.pointer (some ⟨g, i * 4, none⟩)) (.agg #[.int .i64 m.1, .int .i64 m.2.1, .int .i64 m.2.2.1, .int .i64 m.2.2.2])).run Try.prog w = .ok () w' ∧ w'.ownsRow B 37 4 (.slice (some ⟨g, 0, none⟩) n cap) n (mksV (ms.set i m)) ∧ (∀ b, b ≠ g → w'.heap[b]? = w.heap[b]?) ∧ w'.heap.size = w.heap.size := by
  subst hl
  exact owns_store m h hi
def mA : Mk := (-1, 0, 0, 0)
def mB : Mk := (-2, 0, 0, 0)
def fillM (m : Mk) (ms : List Mk) (i : Nat) : List Mk := List.replicate i m ++ ms.drop i
theorem fillM_len {m : Mk} {ms : List Mk} {i : Nat} (h : i ≤ ms.length) : (fillM m ms i).length = ms.length := by simp [fillM]; omega
theorem fillM_set {ms : List Mk} {m : Mk} {i : Nat} (hi : i < ms.length) : (fillM m ms i).set i m = fillM m ms (i + 1) := fill_set hi
theorem fillM_0 (m : Mk) (ms : List Mk) : fillM m ms 0 = ms := by simp [fillM]
theorem fillM_all (m : Mk) (ms : List Mk) : fillM m ms ms.length = List.replicate ms.length m := by simp [fillM]
structure Grn (x wr : World) (av bv : Value) : Prop where
  size : x.heap.size ≤ wr.heap.size
  old : ∀ b, b < x.heap.size → av.ownBlock ≠ some b → bv.ownBlock ≠ some b → wr.heap[b]? = x.heap[b]?
def IntsM (wr : World) (g n : Nat) (k : Int) : Prop := ∀ j, j < n → wr.cell? ⟨g, j * 4, none⟩ = some (.int .i64 k)
theorem ints_of_owns {w : World} {v : Value} {g n : Nat} {m : Mk} (h : w.ownsRow 0 37 4 v n (mksV (List.replicate n m))) (hg : v.ownBlock = some g) : IntsM w g n m.1 := by
  intro j hj
  have h' : w.ownsRow 0 37 4 v (List.replicate n m).length (mksV (List.replicate n m)) := by rw [List.length_replicate]; exact h
  obtain ⟨A, g', cap, rfl, e1, e2⟩ := MksAt.of_owns h'
  obtain rfl := e1 (by rw [List.length_replicate]; omega)
  cases hg
  exact (MksAt.mark e2 (i := j) (m := m) (by rw [List.getElem?_replicate, if_pos hj])).1
theorem IntsM.same {w w' : World} {g n : Nat} {k : Int} (h : IntsM w g n k) (e : w'.heap[g]? = w.heap[g]?) : IntsM w' g n k := fun j hj => (World.cell?_of_block (a := ⟨g, j * 4, none⟩) e).trans (h j hj)
structure Gr3 (x : World) (av bv : Value) (n n' : Nat) (p q : Mk) (wr : World) (xv yv : Value) (i j : Nat) : Prop where
  rx : wr.ownsRow 0 37 4 xv (n + i) (mksV (List.replicate (n + i) p))
  ry : wr.ownsRow 0 37 4 yv (n' + j) (mksV (List.replicate (n' + j) q))
  ca : ∀ g, av.ownBlock = some g → g < wr.heap.size ∧ IntsM wr g n p.1
  cb : ∀ g, bv.ownBlock = some g → g < wr.heap.size ∧ IntsM wr g n' q.1
  xy : ∀ g, xv.ownBlock = some g → yv.ownBlock ≠ some g
  xb : ∀ g, xv.ownBlock = some g → bv.ownBlock ≠ some g
  ya : ∀ g, yv.ownBlock = some g → av.ownBlock ≠ some g
  fx : ∀ g, xv.ownBlock = some g → av.ownBlock = some g ∨ x.heap.size ≤ g
  fy : ∀ g, yv.ownBlock = some g → bv.ownBlock = some g ∨ x.heap.size ≤ g
  G : Grn x wr av bv
theorem Gr3.swap {x : World} {av bv : Value} {n n' : Nat} {p q : Mk} {wr : World} {xv yv : Value} {i j : Nat} (h : Gr3 x av bv n n' p q wr xv yv i j) : Gr3 x bv av n' n q p wr yv xv j i :=
  ⟨h.ry, h.rx, h.cb, h.ca, fun g h1 h2 => h.xy g h2 h1, h.ya, h.xb, h.fy, h.fx, ⟨h.G.size, fun b h1 h2 h3 => h.G.old b h1 h3 h2⟩⟩
theorem Gr3.alloc {x : World} {av bv : Value} {n n' : Nat} {p q : Mk} {wr : World} {xv yv : Value} {i j : Nat} (h : Gr3 x av bv n n' p q wr xv yv i j) (o : Obj) : Gr3 x av bv n n' p q (wr.alloc o) xv yv i j :=
  ⟨h.rx.alloc _, h.ry.alloc _, fun g hg => ⟨by rw [alloc_size]; have := (h.ca g hg).1; omega, (h.ca g hg).2.same (alloc_old (h.ca g hg).1)⟩, fun g hg => ⟨by rw [alloc_size]; have := (h.cb g hg).1; omega, (h.cb g hg).2.same (alloc_old (h.cb g hg).1)⟩, h.xy, h.xb, h.ya, h.fx, h.fy,
    ⟨by rw [alloc_size]; have := h.G.size; omega, fun b h1 h2 h3 => (alloc_old (by have := h.G.size; omega)).trans (h.G.old b h1 h2 h3)⟩⟩
theorem Gr3.app {x : World} {av bv : Value} {n n' : Nat} {p q : Mk} {w w' : World} {xv yv v' : Value} {i j : Nat} (h : Gr3 x av bv n n' p q w xv yv i j) (hr : w'.ownsRow 0 37 4 v' (n + i + 1) (mksV (List.replicate (n + i) p ++ [p])))
    (hc : (v'.ownBlock = xv.ownBlock ∧ w.grownBy w' xv.ownBlock) ∨ ((∀ g, v'.ownBlock = some g → w.heap.size ≤ g) ∧ w.grownBy w' none)) : Gr3 x av bv n n' p q w' v' yv (i + 1) j := by
  rw [← List.replicate_succ'] at hr
  have hr' : w'.ownsRow 0 37 4 v' (n + (i + 1)) (mksV (List.replicate (n + (i + 1)) p)) := hr
  have hsz : w.heap.size ≤ w'.heap.size := by rcases hc with ⟨_, g⟩ | ⟨_, g⟩ <;> exact g.size
  have hold : ∀ b, b < w.heap.size → xv.ownBlock ≠ some b → w'.heap[b]? = w.heap[b]? := fun b h1 h2 => by
    rcases hc with ⟨_, g⟩ | ⟨_, g⟩
    · exact g.block b h1 (Ne.symm h2)
    · exact g.block b h1 (by intro e; cases e)
  have hgs := h.G.size
  refine ⟨hr', ownsRow_same h.ry fun g hg => hold g (h.ry.lt g hg).2 (fun e => h.xy g e hg), fun g hg => ⟨Nat.lt_of_lt_of_le (h.ca g hg).1 hsz, ?_⟩, fun g hg => ⟨Nat.lt_of_lt_of_le (h.cb g hg).1 hsz, (h.cb g hg).2.same (hold g (h.cb g hg).1 (fun e => h.xb g e hg))⟩, fun g hg => ?_, fun g hg => ?_, h.ya, fun g hg => ?_, h.fy, ⟨Nat.le_trans h.G.size hsz, fun b h1 h2 h3 => ?_⟩⟩
  · rcases hc with ⟨e, gr⟩ | ⟨_, gr⟩
    · by_cases hx : xv.ownBlock = some g
      · have := ints_of_owns hr' (e.trans hx)
        exact fun k hk => this k (by omega)
      · exact (h.ca g hg).2.same (gr.block g (h.ca g hg).1 (Ne.symm hx))
    · exact (h.ca g hg).2.same (gr.block g (h.ca g hg).1 (by intro e; cases e))
  · rcases hc with ⟨e, gr⟩ | ⟨e, gr⟩
    · exact h.xy g (by rw [← e]; exact hg)
    · intro hy
      have := e g hg
      have := (h.ry.lt g hy).2
      omega
  · rcases hc with ⟨e, gr⟩ | ⟨e, gr⟩
    · exact h.xb g (by rw [← e]; exact hg)
    · intro hy
      have := e g hg
      have := (h.cb g hy).1
      omega
  · rcases hc with ⟨e, gr⟩ | ⟨e, gr⟩
    · exact h.fx g (by rw [← e]; exact hg)
    · have := e g hg
      exact .inr (by omega)
  · rw [hold b (by omega) (fun e => by
      rcases h.fx b e with k | k
      · exact h2 k
      · omega)]
    exact h.G.old b h1 h2 h3
set_option maxRecDepth 100000 in
set_option maxHeartbeats 4000000 in
theorem grown_wp {x : World} {av bv : Value} {ms ms' : List Mk} (ha : x.ownsRow 0 37 4 av ms.length (mksV ms)) (hb : x.ownsRow 0 37 4 bv ms'.length (mksV ms')) (hne : ∀ g, av.ownBlock = some g → bv.ownBlock ≠ some g) (hn : ms.length ≤ 100000000000) (hn' : ms'.length ≤ 100000000000) :
    Calls Try.prog 25 #[av, bv] x fun e x' => e = .returned (.bool true) ∧ ∀ b, b < x.heap.size → av.ownBlock ≠ some b → bv.ownBlock ≠ some b → x'.heap[b]? = x.heap[b]? := by
  obtain ⟨A, cap, rfl⟩ := owns_slice ha
  obtain ⟨A', cap', rfl⟩ := owns_slice hb
  obtain ⟨n, hnn⟩ : ∃ n, n = ms.length := ⟨_, rfl⟩
  obtain ⟨n', hnn'⟩ : ∃ n, n = ms'.length := ⟨_, rfl⟩
  rw [← hnn] at ha hn hne ⊢
  rw [← hnn'] at hb hn' hne ⊢
  have hA : 0 < n → ∃ g, A = some ⟨g, 0, none⟩ := fun h => by
    rcases ha.2 with ⟨e, h0⟩ | ⟨g, _, _, e, _⟩
    · omega
    · cases e; exact ⟨g, rfl⟩
  have hA' : 0 < n' → ∃ g, A' = some ⟨g, 0, none⟩ := fun h => by
    rcases hb.2 with ⟨e, h0⟩ | ⟨g, _, _, e, _⟩
    · omega
    · cases e; exact ⟨g, rfl⟩
  obtain ⟨av, hav⟩ : ∃ av, av = Value.slice A n cap := ⟨_, rfl⟩
  obtain ⟨bv, hbv⟩ : ∃ bv, bv = Value.slice A' n' cap' := ⟨_, rfl⟩
  rw [← hav] at ha
  rw [← hbv] at hb
  have hne' : ∀ g, av.ownBlock = some g → bv.ownBlock ≠ some g := by rw [hav, hbv]; exact hne
  have hG0 : Grn x x av bv := ⟨Nat.le_refl _, fun _ _ _ _ => rfl⟩
  suffices hs : Calls Try.prog 25 #[.slice A n cap, .slice A' n' cap'] x fun e x' => e = .returned (.bool true) ∧ Grn x x' av bv by
    refine hs.mono ?_
    rintro e x' ⟨e1, e2⟩
    rw [← hav, ← hbv]
    exact ⟨e1, e2.old⟩
  replace hav := Lib.hid hav
  replace hbv := Lib.hid hbv
  replace hnn := Lib.hid hnn
  replace hnn' := Lib.hid hnn'
  replace ha := Lib.hid ha
  replace hb := Lib.hid hb
  go_enter Try.func25, Try.ntmps25
  go_wp2_with fail
  go_loopw [5] (fun v wr => ∃ i : Nat, v = .int .i64 (i : Int) ∧ i ≤ n ∧ Hid (wr.ownsRow 0 37 4 av n (mksV (fillM mA ms i))) ∧ Hid (wr.ownsRow 0 37 4 bv n' (mksV ms')) ∧ Hid (Grn x wr av bv)) (fun v _ => n + 1 - natOfV v)
  case atStart => exact ⟨0, rfl, Nat.zero_le _, by rw [fillM_0]; exact ha.out, hb.out, hG0⟩
  case round =>
    obtain ⟨i, rfl, hi, hr, hr', hG⟩ := hrel
    by_cases hlt : i < n
    · obtain ⟨g, rfl⟩ := hA (by omega)
      have g1 : (i : Int) < (n : Int) := by omega
      have g2 : (0 : Int) ≤ (i : Int) := by omega
      have hrr := hr.out
      rw [hav.out] at hrr
      obtain ⟨w2, hst, hr2, hold, hsz⟩ := owns_store' (i := i) mA hrr (by rw [fillM_len (by rw [← hnn.out]; exact hi), hnn.out]) hlt
      rw [fillM_set (by rw [← hnn.out]; exact hlt), ← hav.out] at hr2
      have hgb : bv.ownBlock ≠ some g := hne' g (by rw [hav.out]; rfl)
      have hr2' : w2.ownsRow 0 37 4 bv n' (mksV ms') := ownsRow_same hr'.out fun k hk => hold k (fun e => hgb (by rw [← e]; exact hk))
      have hG2 : Grn x w2 av bv := ⟨by rw [hsz]; exact hG.out.size, fun b h1 h2 h3 => (hold b (fun e => h2 (by rw [hav.out, e]; rfl))).trans (hG.out.old b h1 h2 h3)⟩
      have e9 : natOfV (.int .i64 ((i : Int) + 1)) = i + 1 := by simp [natOfV]
      have hiw : IntKind.i64.wrap ((i : Int) + 1) = ((i + 1 : Nat) : Int) := by rw [IntKind.wrap_i64]; omega
      replace hr2 := Lib.hid hr2
      replace hr2' := Lib.hid hr2'
      replace hG2 := Lib.hid hG2
      replace hold := Lib.hid hold
      replace hsz := Lib.hid hsz
      replace hrr := Lib.hid hrr
      go_wp2_with (refine wpList_store rfl rfl (.tmp 21) (.tmp 20) 37 rfl rfl rfl hst ?_)
      exact ⟨⟨i + 1, by rw [Int.natCast_add]; rfl, by omega, hr2.out, hr2'.out, hG2.out⟩, by rw [e9]; simp [natOfV]; omega⟩
    · obtain rfl : n = i := by omega
      have g1 : ¬ (n : Int) < (n : Int) := by omega
      have hra : wr.ownsRow 0 37 4 av n (mksV (List.replicate n mA)) := by
        have := hr.out
        rw [hnn.out, fillM_all, ← hnn.out] at this
        exact this
      replace hra := Lib.hid hra
      clear hr
      go_wp2_with fail
      go_loopw [6] (fun v w2 => ∃ i : Nat, v = .int .i64 (i : Int) ∧ i ≤ n' ∧ Hid (w2.ownsRow 0 37 4 av n (mksV (List.replicate n mA))) ∧ Hid (w2.ownsRow 0 37 4 bv n' (mksV (fillM mB ms' i))) ∧ Hid (Grn x w2 av bv)) (fun v _ => n' + 1 - natOfV v)
      case atStart => exact ⟨0, rfl, Nat.zero_le _, hra.out, by rw [fillM_0]; exact hr'.out, hG.out⟩
      case round =>
        clear hra hr' hG
        obtain ⟨i, rfl, hi, hr, hr', hG⟩ := hrel
        by_cases hlt : i < n'
        · obtain ⟨g, rfl⟩ := hA' (by omega)
          have g1 : (i : Int) < (n' : Int) := by omega
          have g2 : (0 : Int) ≤ (i : Int) := by omega
          have hrr := hr'.out
          rw [hbv.out] at hrr
          obtain ⟨w2, hst, hr2, hold, hsz⟩ := owns_store' (i := i) mB hrr (by rw [fillM_len (by rw [← hnn'.out]; exact hi), hnn'.out]) hlt
          rw [fillM_set (by rw [← hnn'.out]; exact hlt), ← hbv.out] at hr2
          have hgb : ∀ k, av.ownBlock = some k → k ≠ g := fun k hk e => hne' k hk (by rw [hbv.out, e]; rfl)
          have hr2' := ownsRow_same hr.out fun k hk => hold k (hgb k hk)
          have hG2 : Grn x w2 av bv := ⟨by rw [hsz]; exact hG.out.size, fun b h1 h2 h3 => (hold b (fun e => h3 (by rw [hbv.out, e]; rfl))).trans (hG.out.old b h1 h2 h3)⟩
          have e9 : natOfV (.int .i64 ((i : Int) + 1)) = i + 1 := by simp [natOfV]
          have hiw : IntKind.i64.wrap ((i : Int) + 1) = ((i + 1 : Nat) : Int) := by rw [IntKind.wrap_i64]; omega
          replace hr2 := Lib.hid hr2
          replace hr2' := Lib.hid hr2'
          replace hG2 := Lib.hid hG2
          replace hold := Lib.hid hold
          replace hsz := Lib.hid hsz
          replace hrr := Lib.hid hrr
          go_wp2_with (refine wpList_store rfl rfl (.tmp 31) (.tmp 30) 37 rfl rfl rfl hst ?_)
          exact ⟨⟨i + 1, by rw [Int.natCast_add]; rfl, by omega, hr2'.out, hr2.out, hG2.out⟩, by rw [e9]; simp [natOfV]; omega⟩
        · obtain rfl : n' = i := by omega
          have g1 : ¬ (n' : Int) < (n' : Int) := by omega
          have hrb : wr.ownsRow 0 37 4 bv n' (mksV (List.replicate n' mB)) := by
            have := hr'.out
            rw [hnn'.out, fillM_all, ← hnn'.out] at this
            exact this
          replace hrb := Lib.hid hrb
          clear hr'
          have h0 : Gr3 x av bv n n' mA mB wr av bv 0 0 := ⟨hr.out, hrb.out, fun g hg => ⟨(hr.out.lt g hg).2, ints_of_owns hr.out hg⟩, fun g hg => ⟨(hrb.out.lt g hg).2, ints_of_owns hrb.out hg⟩, hne', hne', fun g h1 h2 => hne' g h2 h1, fun g h => .inl h, fun g h => .inl h, hG.out⟩
          rw [hav.out, hbv.out] at h0
          replace h0 := Lib.hid h0
          clear hr hrb hG
          go_wp2_with fail
          go_loopw [7, 8, 9] (fun xv yv v w2 => ∃ i : Nat, v = .int .i64 (i : Int) ∧ i ≤ 20 ∧ Hid (Gr3 x (.slice A n cap) (.slice A' n' cap') n n' mA mB w2 xv yv i i)) (fun _ _ v _ => 20 + 1 - natOfV v)
          case atStart => exact ⟨0, rfl, Nat.zero_le _, h0.out⟩
          case round =>
            clear h0
            obtain ⟨i, rfl, hi, h3⟩ := hrel
            by_cases hlt : i < 20
            · have g1 : (i : Int) < 20 := by omega
              have hiw : IntKind.i64.wrap ((i : Int) + 1) = ((i + 1 : Nat) : Int) := by rw [IntKind.wrap_i64]; omega
              have e9 : natOfV (.int .i64 ((i : Int) + 1)) = i + 1 := by simp [natOfV]
              have hrx := h3.out.rx
              have hnA : ∀ W : World, ∀ j u, (mkV mA)[j]? = some u → (W.alloc (.cells #[.int .i64 (-1), .int .i64 0, .int .i64 0, .int .i64 0] 37)).cell? ((⟨W.heap.size, 0, none⟩ : Addr).add j) = some u := fun W => World.news_of_block (cs := #[.int .i64 (-1), .int .i64 0, .int .i64 0, .int .i64 0]) (t := 37) (fr := (0, 0)) (heap_alloc_new _ _)
              have hnB : ∀ W : World, ∀ j u, (mkV mB)[j]? = some u → (W.alloc (.cells #[.int .i64 (-2), .int .i64 0, .int .i64 0, .int .i64 0] 37)).cell? ((⟨W.heap.size, 0, none⟩ : Addr).add j) = some u := fun W => World.news_of_block (cs := #[.int .i64 (-2), .int .i64 0, .int .i64 0, .int .i64 0]) (t := 37) (fr := (0, 0)) (heap_alloc_new _ _)
              replace hrx := Lib.hid hrx
              replace hnA := Lib.hid hnA
              replace hnB := Lib.hid hnB
              go_wp2_with (first
                | (at_builtin; refine wpList_append_both rfl (.tmp 38) (.tmp 40) rfl u7 (n + i) (List.replicate (n + i) mA) mA (by rfl) (by simp) (hrx.out.alloc _) ⟨wr.heap.size, 0, none⟩ (by rfl) (hnA.out wr) (by omega) ?_; intro v1 w1 hr1 hc1; have hA3 := Lib.hid ((h3.out.alloc _).app hr1 hc1); clear hr1 hc1)
                | (at_builtin; refine wpList_append_both rfl (.tmp 42) (.tmp 44) rfl u8 (n' + i) (List.replicate (n' + i) mB) mB (by rfl) (by simp) (hA3.out.ry.alloc _) ⟨w1.heap.size, 0, none⟩ (by rfl) (hnB.out w1) (by omega) ?_; intro v2 w2 hr2 hc2; have hB3 := Lib.hid ((hA3.out.alloc _).swap.app hr2 hc2).swap; clear hr2 hc2))
              exact ⟨⟨i + 1, by rw [Int.natCast_add]; rfl, by omega, hB3.out⟩, by rw [e9]; simp [natOfV]; omega⟩
            · obtain rfl : i = 20 := by omega
              obtain ⟨X, xc, rfl⟩ := owns_slice h3.out.rx
              obtain ⟨Y, yc, rfl⟩ := owns_slice h3.out.ry
              have hX : ∃ gx, X = some ⟨gx, 0, none⟩ := by
                rcases h3.out.rx.2 with ⟨e, h0⟩ | ⟨g, _, _, e, _⟩
                · omega
                · cases e; exact ⟨g, rfl⟩
              have hY : ∃ gy, Y = some ⟨gy, 0, none⟩ := by
                rcases h3.out.ry.2 with ⟨e, h0⟩ | ⟨g, _, _, e, _⟩
                · omega
                · cases e; exact ⟨g, rfl⟩
              obtain ⟨gx, rfl⟩ := hX
              obtain ⟨gy, rfl⟩ := hY
              have ix := ints_of_owns h3.out.rx rfl
              have iy := ints_of_owns h3.out.ry rfl
              have ca := h3.out.ca
              have cb := h3.out.cb
              have hGf := h3.out.G
              rw [← hav.out, ← hbv.out] at hGf
              replace ix := Lib.hid ix
              replace iy := Lib.hid iy
              replace ca := Lib.hid ca
              replace cb := Lib.hid cb
              replace hGf := Lib.hid hGf
              clear h3 hne
              go_wp2_with fail
              go_loopw [10] (fun v w2 => ∃ i : Nat, v = .int .i64 (i : Int) ∧ i ≤ n + 20 ∧ w2 = wr) (fun v _ => n + 20 + 1 - natOfV v)
              case atStart => exact ⟨0, rfl, Nat.zero_le _, rfl⟩
              case round =>
                obtain ⟨i, rfl, hi, rfl⟩ := hrel
                by_cases hlt : i < n + 20
                · have c1 := ix.out i hlt
                  have g1 : (i : Int) < (n : Int) + 20 := by omega
                  have g2 : (0 : Int) ≤ (i : Int) := by omega
                  have e9 : natOfV (.int .i64 ((i : Int) + 1)) = i + 1 := by simp [natOfV]
                  have hiw : IntKind.i64.wrap ((i : Int) + 1) = ((i + 1 : Nat) : Int) := by rw [IntKind.wrap_i64]; omega
                  by_cases hln : i < n
                  · obtain ⟨ga, rfl⟩ := hA (by omega)
                    have c2 := (ca.out ga rfl).2 i hln
                    have g3 : (i : Int) < (n : Int) := by omega
                    dsimp only [mA] at c1 c2
                    go_wp2
                    exact ⟨⟨i + 1, by rw [Int.natCast_add]; rfl, by omega, trivial⟩, by rw [e9]; simp [natOfV]; omega⟩
                  · have g3 : ¬ (i : Int) < (n : Int) := by omega
                    dsimp only [mA] at c1
                    go_wp2
                    exact ⟨⟨i + 1, by rw [Int.natCast_add]; rfl, by omega, trivial⟩, by rw [e9]; simp [natOfV]; omega⟩
                · obtain rfl : i = n + 20 := by omega
                  have g1 : ¬ ((n + 20 : Nat) : Int) < (n : Int) + 20 := by omega
                  have g1' : ¬ (n : Int) + 20 < (n : Int) + 20 := by omega
                  go_wp2_with fail
                  go_loopw [11] (fun v w2 => ∃ i : Nat, v = .int .i64 (i : Int) ∧ i ≤ n' + 20 ∧ w2 = wr) (fun v _ => n' + 20 + 1 - natOfV v)
                  case atStart => exact ⟨0, rfl, Nat.zero_le _, rfl⟩
                  case round =>
                    obtain ⟨i, rfl, hi, rfl⟩ := hrel
                    by_cases hlt : i < n' + 20
                    · have c1 := iy.out i hlt
                      have g1 : (i : Int) < (n' : Int) + 20 := by omega
                      have g2 : (0 : Int) ≤ (i : Int) := by omega
                      have e9 : natOfV (.int .i64 ((i : Int) + 1)) = i + 1 := by simp [natOfV]
                      have hiw : IntKind.i64.wrap ((i : Int) + 1) = ((i + 1 : Nat) : Int) := by rw [IntKind.wrap_i64]; omega
                      by_cases hln : i < n'
                      · obtain ⟨gb, rfl⟩ := hA' (by omega)
                        have c2 := (cb.out gb rfl).2 i hln
                        have g3 : (i : Int) < (n' : Int) := by omega
                        dsimp only [mB] at c1 c2
                        go_wp2
                        exact ⟨⟨i + 1, by rw [Int.natCast_add]; rfl, by omega, trivial⟩, by rw [e9]; simp [natOfV]; omega⟩
                      · have g3 : ¬ (i : Int) < (n' : Int) := by omega
                        dsimp only [mB] at c1
                        go_wp2
                        exact ⟨⟨i + 1, by rw [Int.natCast_add]; rfl, by omega, trivial⟩, by rw [e9]; simp [natOfV]; omega⟩
                    · obtain rfl : i = n' + 20 := by omega
                      have g1 : ¬ ((n' + 20 : Nat) : Int) < (n' : Int) + 20 := by omega
                      have g1' : ¬ (n' : Int) + 20 < (n' : Int) + 20 := by omega
                      go_wp2
                      go_ret
                      exact ⟨rfl, hGf.out⟩
#print axioms grown_wp
end Go.Proofs.Ytimlbbleblijnaa.Co

namespace Go.Proofs.Ytimlbbleblijnaa.Co
open Go Go.Conc Go.RowKit
open Go.ConcN (sumTo upd sumTo_upd upd_ne upd_same sumTo_congr le_sumTo)
set_option linter.unusedVariables false
set_option linter.unusedSimpArgs false
section
variable {P : Program} {h : Nat} {F : Machine → Trace → Prop} {E : Env} {w : World} {n : Nat} {fr : Frame} {a : Act} {k : List Item} {cs : List Frame} {ops : Array Oper} {i : Nat} {rest : List Nat} {o : Oper}
theorem HGn.mkV {c : Array Value} {t : TypeId} (val : Nat → Value) (hrole : E.role h = .gone) (ho : ops[i]? = some o) (hw : Region.wanted o (yielded ops a.tmps) = true) (hk : fr.kind ≠ .early)
    (hr : ∀ w₁ : World, (execOp a.eval o).run P w₁ = .ok (.value (val w₁.heap.size)) (w₁.alloc (.cells c t)) ∧ (execOp a.eval o).events P w₁ #[] = #[]) (hg : (∀ b, w.heap.size ≤ b → E.H b = none) → E.W w.heap.size = false → HGn P h F E (w.alloc (.cells c t)) n (G (fr.at (a.put o.dst (val w.heap.size)) (.inRegion ops rest :: k)) cs)) :
    HGn P h F E w (n + 1) (G (fr.at a (.inRegion ops (i :: rest) :: k)) cs) := by
  refine HG.withB fun hB _ _ => HG.withH fun hWH _ => ?_
  have hWn : E.W w.heap.size = false := by
    cases e : E.W w.heap.size with
    | false => rfl
    | true => have := hWH _ e; rw [hB _ (Nat.le_refl _)] at this; cases this
  replace hg := hg hB hWn
  refine HG.open fun E1 w1 hA ⟨gs, T, q, C, _⟩ => ?_
  have hAw := hA.2
  have hW1 : E1.W = E.W := hA.1.W'
  refine (HG.clo P h F E1).own rfl fun w₂ h2 => ?_
  obtain ⟨e1, e2⟩ := hr w₂
  have hsz : w₂.heap.size = w.heap.size := h2.size.trans hAw.size
  have hget : ∀ b, b < w₂.heap.size → (w₂.alloc (.cells c t)).heap[b]? = w₂.heap[b]? := fun b hb => alloc_old hb
  refine ⟨G (fr.at (a.put o.dst (val w.heap.size)) (.inRegion ops rest :: k)) cs, w₂.alloc (.cells c t), #[], ?_, ⟨by rw [alloc_size]; omega, fun a' ⟨i, hi⟩ => ?_, fun c' ⟨i, home, hi⟩ => ?_, fun b hb x st sm e' hx => ?_, fit_alloc, fun ev he => by simp at he, ⟨rfl, rfl⟩⟩, ?_⟩
  · rw [stepG_value ho hw hk e1]
    unfold listed
    rw [e2, seen_none, hsz]
  · have hl : a'.block < w₂.heap.size := by rw [h2.size]; exact C.S_lt hi
    unfold World.cell?
    rw [hget _ hl]
  · have hih : i ≠ h := fun z => by
      subst z
      have := hA.1.roleH
      rw [hi, hrole] at this
      cases this
    obtain ⟨k', hk'⟩ := C.chans i c' home hih (C.seat_lt hi) hi
    exact hget _ (by rw [h2.size]; exact (Array.getElem?_eq_some_iff.1 hk').1)
  · exact ⟨x, by rw [hget _ (Array.getElem?_eq_some_iff.1 hx).1]; exact hx⟩
  · have hA2 : Aw E.W (w.alloc (.cells c t)) (w₂.alloc (.cells c t)) := aw_alloc (hAw.trans _ _ _ (by rw [← hW1]; exact h2)) hWn
    exact (show HG P h F E _ _ from hg).at ⟨hA.1, hA2⟩
end
def standD (K : Nat → Obj → Prop) : Prot Unit Empty where
  M _ E w := ∀ b o, K b o → w.heap[b]? = some o ∧ E.H b = none
  next ℓ := nomatch ℓ
  fits ℓ := nomatch ℓ
  who ℓ := nomatch ℓ
  init _ _ := True
  mono ℓ := nomatch ℓ
  fresh ℓ := nomatch ℓ
  tal ℓ := nomatch ℓ
  closed := fun s E w E' w' m hb b o hk => by
    obtain ⟨k1, k2⟩ := m b o hk
    obtain ⟨h1, h2⟩ := hb b (Array.getElem?_eq_some_iff.1 k1).1 k2
    exact ⟨h2.trans k1, h1⟩
theorem stands_alloc {E : Env} {w : World} {o : Obj} : Stands E w E (w.alloc o) := fun b x h1 h2 => ⟨h1, by rw [alloc_old (Array.getElem?_eq_some_iff.1 h2).1]; exact h2⟩
section
variable {h : Nat} {F : Machine → Trace → Prop} {E : Env} {w : World} {b₀ : Frame} {a₀ : Act} {ops₀ : Array Oper} {i₀ : Nat} {rest₀ : List Nat} {k₀ : List Item} {cl : List Frame}
theorem run_empty {picks : List Int} {drain : Bool} {pv : Value} (hP : IntsAt E w pv picks) (hnp : picks.length ≤ 1000000000000000) (hp64 : ∀ p ∈ picks, -9223372036854775808 ≤ p ∧ p ≤ 9223372036854775807) (hrole : E.role h = .gone) (hmode : ∀ b, E.mode b = 0)
    (hc : ∀ E' w', Kept h none E w E' w' → Stands E w E' w' → HG Try.prog h F E' (G (b₀.at (a₀.put ((ops₀[i₀]?).bind (·.dst)) (.int .i64 0)) (.inRegion ops₀ rest₀ :: k₀)) cl) w') :
    HG Try.prog h F E (entry 29 Try.f29 #[.slice none 0 0, pv, .bool drain] (b₀.at a₀ (.inRegion ops₀ (i₀ :: rest₀) :: k₀) :: cl)) w := by
  obtain ⟨pa, pb, po, pcap, rfl, hpa, hps⟩ := hP.at_
  refine run_holds (D := standD (fun b o => w.heap[b]? = some o ∧ E.H b = none)) (s := ()) (bs := []) (picks := picks) (drain := drain) (ba := 0) (bo := 0) (pb := pb) (po := po) (by simp) hnp (fun b hb => by cases hb) (fun h => absurd rfl h) hpa hp64 (fun s E' w' m i b hi => by simp at hi) (fun s E' w' m i p hi => ?_) (fun i b hi => by simp at hi) (fun i b hi => by simp at hi) trivial hrole hmode (fun b o hk => hk) (fun z E' w' hz kk m => ?_)
  · obtain ⟨q1, q2⟩ := hps i p hi
    have hl := World.block_lt_of_cell? w _ q1
    obtain ⟨k1, k2⟩ := m pb _ ⟨Array.getElem?_eq_getElem hl, q2⟩
    exact ⟨(World.cell?_of_block (by rw [k1, Array.getElem?_eq_getElem hl])).trans q1, k2⟩
  · unfold RunR at hz
    rw [if_pos (by rfl)] at hz
    rw [hz]
    exact hc E' w' kk (fun b o h1 h2 => by
      obtain ⟨k1, k2⟩ := m b o ⟨h2, h1⟩
      exact ⟨k2, k1⟩)
#print axioms run_empty
end
end Go.Proofs.Ytimlbbleblijnaa.Co

namespace Go.Proofs.Ytimlbbleblijnaa.Co
open Go Go.Conc Go.RowKit
set_option linter.unusedVariables false
set_option linter.unusedSimpArgs false
theorem stepG_done {P : Program} {b : Frame} {a : Act} {fn : Func} {todo : List Item} {w : World} {t : Tmp} (hn : b.kind = .normal) (hd : a.defers = []) (hf : P.funcs[b.fn]? = some fn) (hr : fn.results = #[.tmp t]) (hin : P.inits.idxOf? b.fn = none) :
    stepG P true (G { b.at a todo with mode := .returning } []) w = .ended (.done (a.tmps.getD t undef)) w #[] := by
  have h1 := results_tmp (fn := fn) hr a.tmps P w
  have h2 := fun es => events_results_tmp (fn := fn) (P := P) (w := w) hr a.tmps es
  simp [G, stepG, unwind, doReturn, Frame.at, hn, hd, hf, h1, h2, hin, seen, GStep.after]
def FinF (P : Program) (Post : Value → World → Prop) (m : Machine) (T : Trace) : Prop :=
  ∃ N last o w' t', runNT P (N + 1) m T = (.ended o w', t') ∧ runN P N m = .next last ∧ step P last = .ended o w' ∧ Go.Conc.Good P Post last o w' t'
section
variable {P : Program} {E : Env} {w : World} {Post : Value → World → Prop}
theorem HG.done {b : Frame} {a : Act} {fn : Func} {todo : List Item} {t : Tmp} {v : Value} (hn : b.kind = .normal) (hd : a.defers = []) (hf : P.funcs[b.fn]? = some fn) (hr : fn.results = #[.tmp t]) (hin : P.inits.idxOf? b.fn = none) (hv : a.tmps[t]? = some v) (hgone : ∀ i, 0 < i → E.role i = .gone)
    (hpost : ∀ w', SameIo E.io w' → Aw E.W w w' → Post v w') : HG P 0 (FinF P Post) E (G { b.at a todo with mode := .returning } []) w := by
  intro E' w' gs T q sl hA C ha
  have hret : AtRet P Post E' (G { b.at a todo with mode := .returning } []) w' := by
    refine ⟨rfl, fun i hi => hA.1.gone i (hgone i hi), fun w2 h2 => ⟨_, _, stepG_done hn hd hf hr hin, fun e he => by simp at he, ?_⟩⟩
    rw [show a.tmps.getD t undef = v by simp [Array.getD_eq_getD_getElem?, hv]]
    have hW : E'.W = E.W := hA.1.W'
    rw [hW] at h2
    refine hpost w2 ?_ (hA.2.trans _ _ _ h2)
    have h3 := C.io
    rw [hA.1.io] at h3
    exact h3.trans ⟨h2.os, h2.output⟩
  obtain ⟨N, last, o, w2, t2, h1, h2, h3, h4⟩ := C.ends ha hret (sl := sl)
  exact ⟨0, _, _, rfl, N, last, o, w2, t2, h1, h2, h3, h4⟩
theorem hg_run {g : Goroutine} {W : World} (hg : HG P 0 (FinF P Post) (Env.zero W) g W) : ∃ M last o w' t', runNT P (M + 1) (solo g W) #[] = (.ended o w', t') ∧ runN P M (solo g W) = .next last ∧ step P last = .ended o w' ∧ Go.Conc.Good P Post last o w' t' := by
  obtain ⟨N, m', T', h1, N2, last, o, w', t', k1, k2, k3, k4⟩ := hg (Env.zero W) W #[g] #[] (fun _ => 0) none ⟨.refl 0 _, Aw.refl _ _⟩ (Co.start P g W) rfl
  refine ⟨N + N2, last, o, w', t', ?_, ?_, k3, k4⟩
  · have := runNT_add P N (N2 + 1) (crowd #[g] W none) #[]
    rw [h1] at this
    show runNT P (N + (N2 + 1)) (crowd #[g] W none) #[] = _
    rw [this]
    exact k1
  · have h5 : runN P N (crowd #[g] W none) = .next m' := by rw [← runNT_fst _ _ _ #[], h1]
    show runN P (N + N2) (crowd #[g] W none) = _
    rw [runN_add, h5]
    exact k2
theorem below_end {W w' w2 : World} {E' : Env} (hk : Kept 0 none (Env.zero W) W E' w') (hs : Stands (Env.zero W) W E' w') (hio : SameIo E'.io w2) (hA : Aw E'.W w' w2) : Below W.heap.size W { w2 with tape := W.tape } := by
  have h1 : E'.io = W := hk.le.io
  rw [h1] at hio
  have hWn : ∀ b, b < W.heap.size → E'.W b = false := fun b hb => by
    cases e : E'.W b with
    | false => rfl
    | true =>
      rcases hk.WN b e with z | z
      · cases z
      · omega
  refine ⟨hio.1, rfl, hio.2, ?_, fun b hb => ?_⟩
  · show W.heap.size ≤ w2.heap.size
    rw [hA.size]; exact hk.size
  · show w2.heap[b]? = _
    rw [hA.heap b (hWn b hb)]
    cases e : (Env.zero W).H b with
    | some n => exact hk.heap b n e rfl (by simp) hb
    | none => rw [(hs b _ e (Array.getElem?_eq_getElem hb)).2, Array.getElem?_eq_getElem hb]
theorem law_good {f : FuncId} {fn : Func} {t : Tmp} {args : Array Value} {W : World} {v : Value} (hf : P.funcs[f]? = some fn) (hb : fn.body.isSome = true) (hr : fn.results = #[.tmp t]) (hin : P.inits.idxOf? f = none)
    (hg : ∀ F, (∀ E' w' T todo, Kept 0 none (Env.zero W) W E' w' → Stands (Env.zero W) W E' w' → T[t]? = some v → HG P 0 F E' (G { (base f).at ⟨T, []⟩ todo with mode := .returning } []) w') → HG P 0 F (Env.zero W) (entry f fn args []) W)
    (hpost : ∀ w2, Below W.heap.size W { w2 with tape := W.tape } → Post v w2) :
    ∃ M last o w' t', runNT P (M + 1) (solo (G (Frame.enter P f args .normal) []) W) #[] = (.ended o w', t') ∧ runN P M (solo (G (Frame.enter P f args .normal) []) W) = .next last ∧ step P last = .ended o w' ∧ Go.Conc.Good P Post last o w' t' := by
  cases hb' : fn.body with
  | none => rw [hb'] at hb; cases hb
  | some c =>
    rw [enter_at args hf hb']
    refine hg_run ?_
    have := hg (FinF P Post) (fun E' w' T todo hk hs hv => HG.done (b := base f) (a := ⟨T, []⟩) rfl rfl hf hr hin hv (fun i hi => hk.le.gone i rfl) (fun w2 h1 h2 => hpost w2 (below_end hk hs h1 h2)))
    unfold entry at this
    rw [hb'] at this
    exact this
end
section
variable {H : Type} {enc : TypeId × Value → H}
theorem post_tape {P : Program} {f : Func} {s : ChangeSpec} {apart fresh handsOn : Bool} {W W' : World} {args : Array Value} {v : Value} (tp : Tape)
    (h : s.post enc P f apart fresh handsOn false W args v { W' with tape := tp }) : s.post enc P f apart fresh handsOn false W args v W' := by
  obtain ⟨ds, gs, before, pr, pa, pv, h1, h2, h3, h4, h5, h6⟩ := h
  exact ⟨ds, gs, before, pr, pa, pv, h1, h2.of_heap (by rfl), h3.of_heap (by rfl), h4.of_heap (by rfl), h5, fun ha => (by cases ha)⟩
end
#print axioms law_good
end Go.Proofs.Ytimlbbleblijnaa.Co

namespace Go.Proofs.Ytimlbbleblijnaa.Co
open Go Go.Conc Go.RowKit
open Go.ConcN (sumTo upd sumTo_upd upd_ne upd_same sumTo_congr le_sumTo)
set_option linter.unusedVariables false
set_option linter.unusedSimpArgs false
def gpF : FuncId → Bool := fun f => f == 18 || f == 19 || f == 20 || f == 22 || f == 23 || f == 24 || f == 25 || f == 26 || f == 66
set_option maxRecDepth 100000 in
theorem closed_gp : Closed Try.prog gpF := by
  refine ⟨fun f hf => ?_, fun f fn c hf hfn hb => ?_⟩
  · have h : f = 18 ∨ f = 19 ∨ f = 20 ∨ f = 22 ∨ f = 23 ∨ f = 24 ∨ f = 25 ∨ f = 26 ∨ f = 66 := by simpa [gpF, or_assoc] using hf
    rcases h with rfl | rfl | rfl | rfl | rfl | rfl | rfl | rfl | rfl
    · exact ⟨Try.f18, Try.func18, by kernel_rfl, .inl (by rfl)⟩
    · exact ⟨Try.f19, Try.func19, by kernel_rfl, .inl (by rfl)⟩
    · exact ⟨Try.f20, Try.func20, by kernel_rfl, .inl (by rfl)⟩
    · exact ⟨Try.f22, Try.func22, by kernel_rfl, .inl (by rfl)⟩
    · exact ⟨Try.f23, Try.func23, by kernel_rfl, .inl (by rfl)⟩
    · exact ⟨Try.f24, Try.func24, by kernel_rfl, .inl (by rfl)⟩
    · exact ⟨Try.f25, Try.func25, by kernel_rfl, .inl (by rfl)⟩
    · exact ⟨Try.f26, Try.func26, by kernel_rfl, .inl (by rfl)⟩
    · exact ⟨Try.f66, Try.func66, by kernel_rfl, .inl (by rfl)⟩
  · have h : f = 18 ∨ f = 19 ∨ f = 20 ∨ f = 22 ∨ f = 23 ∨ f = 24 ∨ f = 25 ∨ f = 26 ∨ f = 66 := by simpa [gpF, or_assoc] using hf
    rcases h with rfl | rfl | rfl | rfl | rfl | rfl | rfl | rfl | rfl
    · rw [Try.func18] at hfn
      obtain rfl := Option.some.inj hfn
      have h2 : Try.f18.body = some (Try.f18.body.getD .skip) := by rfl
      rw [h2] at hb
      obtain rfl := Option.some.inj hb
      show quietCode Try.prog gpF (Try.f18.body.getD .skip) = true
      kernel_rfl
    · rw [Try.func19] at hfn
      obtain rfl := Option.some.inj hfn
      have h2 : Try.f19.body = some (Try.f19.body.getD .skip) := by rfl
      rw [h2] at hb
      obtain rfl := Option.some.inj hb
      show quietCode Try.prog gpF (Try.f19.body.getD .skip) = true
      kernel_rfl
    · rw [Try.func20] at hfn
      obtain rfl := Option.some.inj hfn
      have h2 : Try.f20.body = some (Try.f20.body.getD .skip) := by rfl
      rw [h2] at hb
      obtain rfl := Option.some.inj hb
      show quietCode Try.prog gpF (Try.f20.body.getD .skip) = true
      kernel_rfl
    · rw [Try.func22] at hfn
      obtain rfl := Option.some.inj hfn
      have h2 : Try.f22.body = some (Try.f22.body.getD .skip) := by rfl
      rw [h2] at hb
      obtain rfl := Option.some.inj hb
      show quietCode Try.prog gpF (Try.f22.body.getD .skip) = true
      kernel_rfl
    · rw [Try.func23] at hfn
      obtain rfl := Option.some.inj hfn
      have h2 : Try.f23.body = some (Try.f23.body.getD .skip) := by rfl
      rw [h2] at hb
      obtain rfl := Option.some.inj hb
      show quietCode Try.prog gpF (Try.f23.body.getD .skip) = true
      kernel_rfl
    · rw [Try.func24] at hfn
      obtain rfl := Option.some.inj hfn
      have h2 : Try.f24.body = some (Try.f24.body.getD .skip) := by rfl
      rw [h2] at hb
      obtain rfl := Option.some.inj hb
      show quietCode Try.prog gpF (Try.f24.body.getD .skip) = true
      kernel_rfl
    · rw [Try.func25] at hfn
      obtain rfl := Option.some.inj hfn
      have h2 : Try.f25.body = some (Try.f25.body.getD .skip) := by rfl
      rw [h2] at hb
      obtain rfl := Option.some.inj hb
      show quietCode Try.prog gpF (Try.f25.body.getD .skip) = true
      kernel_rfl
    · rw [Try.func26] at hfn
      obtain rfl := Option.some.inj hfn
      have h2 : Try.f26.body = some (Try.f26.body.getD .skip) := by rfl
      rw [h2] at hb
      obtain rfl := Option.some.inj hb
      show quietCode Try.prog gpF (Try.f26.body.getD .skip) = true
      kernel_rfl
    · rw [Try.func66] at hfn
      obtain rfl := Option.some.inj hfn
      have h2 : Try.f66.body = some (Try.f66.body.getD .skip) := by rfl
      rw [h2] at hb
      obtain rfl := Option.some.inj hb
      show quietCode Try.prog gpF (Try.f66.body.getD .skip) = true
      kernel_rfl
def rMs (ts : List (List Op3)) (z : PA × Int) : List Mk := if 8 < ts.length then [] else z.1.ms
theorem rplay_any {x : World} {ba bo cap pb po pcap : Nat} {ta pa : Option Addr} {LA : Nat → Option Addr} {LC : Nat → Nat} {ts : List (List Op3)} {picks : List Int} {drain : Bool} {z : PA × Int} (hz : (playG ts).Run picks drain pa0 z)
    (hT : OpsX x ta ba bo LA LC ts) (hpa : picks ≠ [] → pa = some ⟨pb, po, none⟩) (hps : ∀ i p, picks[i]? = some p → x.cell? ⟨pb, po + i, none⟩ = some (.int .i64 p)) (hnp : picks.length ≤ 100000000000) (hll : ∀ l ∈ ts, l.length ≤ 100000000000) (hp64 : ∀ p ∈ picks, -9223372036854775808 ≤ p ∧ p ≤ 9223372036854775807) (hz2 : ts.length ≤ 8 → z.2 ≤ 100000000000000) (hms : ts.length ≤ 8 → z.1.ms.length ≤ 1000000000000) :
    Calls Try.prog 20 #[.slice ta ts.length cap, .slice pa picks.length pcap, .bool drain] x fun e x' => ∃ mv, e = .returned mv ∧ Below x.heap.size x x' ∧ x'.ownsRow x.heap.size 37 4 mv (rMs ts z).length (mksV (rMs ts z)) := by
  unfold rMs
  by_cases h : 8 < ts.length
  · rw [if_pos h]
    refine (rplay_many h).mono ?_
    rintro e x' ⟨rfl, rfl⟩
    exact ⟨_, rfl, Below.refl _ _, ⟨by simp [mksV], .inl ⟨rfl, rfl⟩⟩⟩
  · rw [if_neg h]
    exact rplay_few (by omega) hz hT hpa hps hnp hll hp64 (hz2 (by omega)) (hms (by omega))
#print axioms closed_gp
#print axioms rplay_any
end Go.Proofs.Ytimlbbleblijnaa.Co

namespace Go.Proofs.Ytimlbbleblijnaa.Co
open Go Go.Conc Go.RowKit
open Go.ConcN (sumTo upd sumTo_upd upd_ne upd_same sumTo_congr le_sumTo)
set_option linter.unusedVariables false
set_option linter.unusedSimpArgs false
noncomputable def gT0 : Code := Try.f3.body.getD .skip
noncomputable def gT1 : Code := match gT0 with | .seq _ x => x | _ => .skip
noncomputable def gS0 : Code := match gT0 with | .seq x _ => x | _ => .skip
noncomputable def gT2 : Code := match gT1 with | .seq _ x => x | _ => .skip
noncomputable def gS1 : Code := match gT1 with | .seq x _ => x | _ => .skip
noncomputable def gT3 : Code := match gT2 with | .seq _ x => x | _ => .skip
noncomputable def gS2 : Code := match gT2 with | .seq x _ => x | _ => .skip
noncomputable def gT4 : Code := match gT3 with | .seq _ x => x | _ => .skip
noncomputable def gS3 : Code := match gT3 with | .seq x _ => x | _ => .skip
noncomputable def gT5 : Code := match gT4 with | .seq _ x => x | _ => .skip
noncomputable def gS4 : Code := match gT4 with | .seq x _ => x | _ => .skip
noncomputable def gT6 : Code := match gT5 with | .seq _ x => x | _ => .skip
noncomputable def gS5 : Code := match gT5 with | .seq x _ => x | _ => .skip
noncomputable def gT7 : Code := match gT6 with | .seq _ x => x | _ => .skip
noncomputable def gS6 : Code := match gT6 with | .seq x _ => x | _ => .skip
noncomputable def gT8 : Code := match gT7 with | .seq _ x => x | _ => .skip
noncomputable def gS7 : Code := match gT7 with | .seq x _ => x | _ => .skip
noncomputable def gT9 : Code := match gT8 with | .seq _ x => x | _ => .skip
noncomputable def gS8 : Code := match gT8 with | .seq x _ => x | _ => .skip
noncomputable def gT10 : Code := match gT9 with | .seq _ x => x | _ => .skip
noncomputable def gS9 : Code := match gT9 with | .seq x _ => x | _ => .skip
noncomputable def gT11 : Code := match gT10 with | .seq _ x => x | _ => .skip
noncomputable def gS10 : Code := match gT10 with | .seq x _ => x | _ => .skip
noncomputable def gT12 : Code := match gT11 with | .seq _ x => x | _ => .skip
noncomputable def gS11 : Code := match gT11 with | .seq x _ => x | _ => .skip
noncomputable def gT13 : Code := match gT12 with | .seq _ x => x | _ => .skip
noncomputable def gS12 : Code := match gT12 with | .seq x _ => x | _ => .skip
noncomputable def gT14 : Code := match gT13 with | .seq _ x => x | _ => .skip
noncomputable def gS13 : Code := match gT13 with | .seq x _ => x | _ => .skip
noncomputable def gT15 : Code := match gT14 with | .seq _ x => x | _ => .skip
noncomputable def gS14 : Code := match gT14 with | .seq x _ => x | _ => .skip
noncomputable def gT16 : Code := match gT15 with | .seq _ x => x | _ => .skip
noncomputable def gS15 : Code := match gT15 with | .seq x _ => x | _ => .skip
noncomputable def gT17 : Code := match gT16 with | .seq _ x => x | _ => .skip
noncomputable def gS16 : Code := match gT16 with | .seq x _ => x | _ => .skip
noncomputable def gT18 : Code := match gT17 with | .seq _ x => x | _ => .skip
noncomputable def gS17 : Code := match gT17 with | .seq x _ => x | _ => .skip
noncomputable def gT19 : Code := match gT18 with | .seq _ x => x | _ => .skip
noncomputable def gS18 : Code := match gT18 with | .seq x _ => x | _ => .skip
noncomputable def gS19 : Code := match gT19 with | .seq x _ => x | _ => .skip
set_option maxRecDepth 100000 in
set_option maxHeartbeats 4000000 in
theorem gS2_wp {f : Nat → Value} {x : World} {v0 : Value} {PC : Ending → World → Prop} {Q : Exit → Act → World → Prop} (h0 : f 0 = v0) (hc : Calls Try.prog 18 #[v0] x PC) (hr : ∀ e x', PC e x' → ∃ rv, e = .returned rv)
    (hQ : ∀ T' x' rv, T'.size = 136 → (∀ j, j < 25 → j ≠ 8 → T'[j]? = some (f j)) → T'[8]? = some rv → PC (.returned rv) x' → Q .normal ⟨T', []⟩ x') : gS2.wp Try.prog Q ⟨(List.map f (List.range 136)).toArray, []⟩ x := by
  simp only [List.range, List.range.loop, List.map_cons, List.map_nil, h0]
  simp only [gS2, gT2, gT1, gT0, Try.f3, Option.getD_some]
  go_wp2_with fail
  refine hc.mono ?_
  rintro e x' he
  obtain ⟨rv, rfl⟩ := hr e x' he
  replace he := Lib.hid he
  go_wp2_with fail
  exact hQ _ _ rv (by simp) (fun j hj h9 => by
    match j, hj with
    | 0, _ | 1, _ | 2, _ | 3, _ | 4, _ | 5, _ | 6, _ | 7, _ | 9, _ | 10, _ | 11, _ | 12, _ | 13, _ | 14, _ | 15, _ | 16, _ | 17, _ | 18, _ | 19, _ | 20, _ | 21, _ | 22, _ | 23, _ | 24, _ => simp [h0]
    | 8, _ => exact absurd rfl h9
    | j + 25, h => exact absurd h (by omega)) (by simp) he.out
set_option maxRecDepth 100000 in
set_option maxHeartbeats 4000000 in
theorem gS3_wp {f : Nat → Value} {x : World} {v0 : Value} {PC : Ending → World → Prop} {Q : Exit → Act → World → Prop} (h0 : f 1 = v0) (hc : Calls Try.prog 19 #[v0] x PC) (hr : ∀ e x', PC e x' → ∃ rv, e = .returned rv)
    (hQ : ∀ T' x' rv, T'.size = 136 → (∀ j, j < 25 → j ≠ 9 → T'[j]? = some (f j)) → T'[9]? = some rv → PC (.returned rv) x' → Q .normal ⟨T', []⟩ x') : gS3.wp Try.prog Q ⟨(List.map f (List.range 136)).toArray, []⟩ x := by
  simp only [List.range, List.range.loop, List.map_cons, List.map_nil, h0]
  simp only [gS3, gT3, gT2, gT1, gT0, Try.f3, Option.getD_some]
  go_wp2_with fail
  refine hc.mono ?_
  rintro e x' he
  obtain ⟨rv, rfl⟩ := hr e x' he
  replace he := Lib.hid he
  go_wp2_with fail
  exact hQ _ _ rv (by simp) (fun j hj h9 => by
    match j, hj with
    | 0, _ | 1, _ | 2, _ | 3, _ | 4, _ | 5, _ | 6, _ | 7, _ | 8, _ | 10, _ | 11, _ | 12, _ | 13, _ | 14, _ | 15, _ | 16, _ | 17, _ | 18, _ | 19, _ | 20, _ | 21, _ | 22, _ | 23, _ | 24, _ => simp [h0]
    | 9, _ => exact absurd rfl h9
    | j + 25, h => exact absurd h (by omega)) (by simp) he.out
set_option maxRecDepth 100000 in
set_option maxHeartbeats 4000000 in
theorem gS4_wp {f : Nat → Value} {x : World} {v0 v1 v2 : Value} {PC : Ending → World → Prop} {Q : Exit → Act → World → Prop} (h0 : f 0 = v0) (h1 : f 1 = v1) (h2 : f 2 = v2) (hc : Calls Try.prog 20 #[v0, v1, v2] x PC) (hr : ∀ e x', PC e x' → ∃ rv, e = .returned rv)
    (hQ : ∀ T' x' rv, T'.size = 136 → (∀ j, j < 25 → j ≠ 10 → T'[j]? = some (f j)) → T'[10]? = some rv → PC (.returned rv) x' → Q .normal ⟨T', []⟩ x') : gS4.wp Try.prog Q ⟨(List.map f (List.range 136)).toArray, []⟩ x := by
  simp only [List.range, List.range.loop, List.map_cons, List.map_nil, h0, h1, h2]
  simp only [gS4, gT4, gT3, gT2, gT1, gT0, Try.f3, Option.getD_some]
  go_wp2_with fail
  refine hc.mono ?_
  rintro e x' he
  obtain ⟨rv, rfl⟩ := hr e x' he
  replace he := Lib.hid he
  go_wp2_with fail
  exact hQ _ _ rv (by simp) (fun j hj h9 => by
    match j, hj with
    | 0, _ | 1, _ | 2, _ | 3, _ | 4, _ | 5, _ | 6, _ | 7, _ | 8, _ | 9, _ | 11, _ | 12, _ | 13, _ | 14, _ | 15, _ | 16, _ | 17, _ | 18, _ | 19, _ | 20, _ | 21, _ | 22, _ | 23, _ | 24, _ => simp [h0, h1, h2]
    | 10, _ => exact absurd rfl h9
    | j + 25, h => exact absurd h (by omega)) (by simp) he.out
set_option maxRecDepth 100000 in
set_option maxHeartbeats 4000000 in
theorem gS7_wp {f : Nat → Value} {x : World} {v0 v1 : Value} {PC : Ending → World → Prop} {Q : Exit → Act → World → Prop} (h0 : f 11 = v0) (h1 : f 10 = v1) (hc : Calls Try.prog 22 #[v0, v1] x PC) (hr : ∀ e x', PC e x' → ∃ rv, e = .returned rv)
    (hQ : ∀ T' x' rv, T'.size = 136 → (∀ j, j < 25 → j ≠ 13 → T'[j]? = some (f j)) → T'[13]? = some rv → PC (.returned rv) x' → Q .normal ⟨T', []⟩ x') : gS7.wp Try.prog Q ⟨(List.map f (List.range 136)).toArray, []⟩ x := by
  simp only [List.range, List.range.loop, List.map_cons, List.map_nil, h0, h1]
  simp only [gS7, gT7, gT6, gT5, gT4, gT3, gT2, gT1, gT0, Try.f3, Option.getD_some]
  go_wp2_with fail
  refine hc.mono ?_
  rintro e x' he
  obtain ⟨rv, rfl⟩ := hr e x' he
  replace he := Lib.hid he
  go_wp2_with fail
  exact hQ _ _ rv (by simp) (fun j hj h9 => by
    match j, hj with
    | 0, _ | 1, _ | 2, _ | 3, _ | 4, _ | 5, _ | 6, _ | 7, _ | 8, _ | 9, _ | 10, _ | 11, _ | 12, _ | 14, _ | 15, _ | 16, _ | 17, _ | 18, _ | 19, _ | 20, _ | 21, _ | 22, _ | 23, _ | 24, _ => simp [h0, h1]
    | 13, _ => exact absurd rfl h9
    | j + 25, h => exact absurd h (by omega)) (by simp) he.out
set_option maxRecDepth 100000 in
set_option maxHeartbeats 4000000 in
theorem gS8_wp {f : Nat → Value} {x : World} {v0 v1 : Value} {PC : Ending → World → Prop} {Q : Exit → Act → World → Prop} (h0 : f 12 = v0) (h1 : f 10 = v1) (hc : Calls Try.prog 22 #[v0, v1] x PC) (hr : ∀ e x', PC e x' → ∃ rv, e = .returned rv)
    (hQ : ∀ T' x' rv, T'.size = 136 → (∀ j, j < 25 → j ≠ 14 → T'[j]? = some (f j)) → T'[14]? = some rv → PC (.returned rv) x' → Q .normal ⟨T', []⟩ x') : gS8.wp Try.prog Q ⟨(List.map f (List.range 136)).toArray, []⟩ x := by
  simp only [List.range, List.range.loop, List.map_cons, List.map_nil, h0, h1]
  simp only [gS8, gT8, gT7, gT6, gT5, gT4, gT3, gT2, gT1, gT0, Try.f3, Option.getD_some]
  go_wp2_with fail
  refine hc.mono ?_
  rintro e x' he
  obtain ⟨rv, rfl⟩ := hr e x' he
  replace he := Lib.hid he
  go_wp2_with fail
  exact hQ _ _ rv (by simp) (fun j hj h9 => by
    match j, hj with
    | 0, _ | 1, _ | 2, _ | 3, _ | 4, _ | 5, _ | 6, _ | 7, _ | 8, _ | 9, _ | 10, _ | 11, _ | 12, _ | 13, _ | 15, _ | 16, _ | 17, _ | 18, _ | 19, _ | 20, _ | 21, _ | 22, _ | 23, _ | 24, _ => simp [h0, h1]
    | 14, _ => exact absurd rfl h9
    | j + 25, h => exact absurd h (by omega)) (by simp) he.out
set_option maxRecDepth 100000 in
set_option maxHeartbeats 4000000 in
theorem gS9_wp {f : Nat → Value} {x : World} {v0 v1 : Value} {PC : Ending → World → Prop} {Q : Exit → Act → World → Prop} (h0 : f 8 = v0) (h1 : f 0 = v1) (hc : Calls Try.prog 23 #[v0, v1] x PC) (hr : ∀ e x', PC e x' → ∃ rv, e = .returned rv)
    (hQ : ∀ T' x' rv, T'.size = 136 → (∀ j, j < 25 → j ≠ 15 → T'[j]? = some (f j)) → T'[15]? = some rv → PC (.returned rv) x' → Q .normal ⟨T', []⟩ x') : gS9.wp Try.prog Q ⟨(List.map f (List.range 136)).toArray, []⟩ x := by
  simp only [List.range, List.range.loop, List.map_cons, List.map_nil, h0, h1]
  simp only [gS9, gT9, gT8, gT7, gT6, gT5, gT4, gT3, gT2, gT1, gT0, Try.f3, Option.getD_some]
  go_wp2_with fail
  refine hc.mono ?_
  rintro e x' he
  obtain ⟨rv, rfl⟩ := hr e x' he
  replace he := Lib.hid he
  go_wp2_with fail
  exact hQ _ _ rv (by simp) (fun j hj h9 => by
    match j, hj with
    | 0, _ | 1, _ | 2, _ | 3, _ | 4, _ | 5, _ | 6, _ | 7, _ | 8, _ | 9, _ | 10, _ | 11, _ | 12, _ | 13, _ | 14, _ | 16, _ | 17, _ | 18, _ | 19, _ | 20, _ | 21, _ | 22, _ | 23, _ | 24, _ => simp [h0, h1]
    | 15, _ => exact absurd rfl h9
    | j + 25, h => exact absurd h (by omega)) (by simp) he.out
set_option maxRecDepth 100000 in
set_option maxHeartbeats 4000000 in
theorem gS10_wp {f : Nat → Value} {x : World} {v0 v1 : Value} {PC : Ending → World → Prop} {Q : Exit → Act → World → Prop} (h0 : f 9 = v0) (h1 : f 1 = v1) (hc : Calls Try.prog 24 #[v0, v1] x PC) (hr : ∀ e x', PC e x' → ∃ rv, e = .returned rv)
    (hQ : ∀ T' x' rv, T'.size = 136 → (∀ j, j < 25 → j ≠ 16 → T'[j]? = some (f j)) → T'[16]? = some rv → PC (.returned rv) x' → Q .normal ⟨T', []⟩ x') : gS10.wp Try.prog Q ⟨(List.map f (List.range 136)).toArray, []⟩ x := by
  simp only [List.range, List.range.loop, List.map_cons, List.map_nil, h0, h1]
  simp only [gS10, gT10, gT9, gT8, gT7, gT6, gT5, gT4, gT3, gT2, gT1, gT0, Try.f3, Option.getD_some]
  go_wp2_with fail
  refine hc.mono ?_
  rintro e x' he
  obtain ⟨rv, rfl⟩ := hr e x' he
  replace he := Lib.hid he
  go_wp2_with fail
  exact hQ _ _ rv (by simp) (fun j hj h9 => by
    match j, hj with
    | 0, _ | 1, _ | 2, _ | 3, _ | 4, _ | 5, _ | 6, _ | 7, _ | 8, _ | 9, _ | 10, _ | 11, _ | 12, _ | 13, _ | 14, _ | 15, _ | 17, _ | 18, _ | 19, _ | 20, _ | 21, _ | 22, _ | 23, _ | 24, _ => simp [h0, h1]
    | 16, _ => exact absurd rfl h9
    | j + 25, h => exact absurd h (by omega)) (by simp) he.out
set_option maxRecDepth 100000 in
set_option maxHeartbeats 4000000 in
theorem gS14_wp {f : Nat → Value} {x : World} {v0 v1 v2 : Value} {PC : Ending → World → Prop} {Q : Exit → Act → World → Prop} (h0 : f 8 = v0) (h1 : f 9 = v1) (h2 : f 2 = v2) (hc : Calls Try.prog 20 #[v0, v1, v2] x PC) (hr : ∀ e x', PC e x' → ∃ rv, e = .returned rv)
    (hQ : ∀ T' x' rv, T'.size = 136 → (∀ j, j < 25 → j ≠ 20 → T'[j]? = some (f j)) → T'[20]? = some rv → PC (.returned rv) x' → Q .normal ⟨T', []⟩ x') : gS14.wp Try.prog Q ⟨(List.map f (List.range 136)).toArray, []⟩ x := by
  simp only [List.range, List.range.loop, List.map_cons, List.map_nil, h0, h1, h2]
  simp only [gS14, gT14, gT13, gT12, gT11, gT10, gT9, gT8, gT7, gT6, gT5, gT4, gT3, gT2, gT1, gT0, Try.f3, Option.getD_some]
  go_wp2_with fail
  refine hc.mono ?_
  rintro e x' he
  obtain ⟨rv, rfl⟩ := hr e x' he
  replace he := Lib.hid he
  go_wp2_with fail
  exact hQ _ _ rv (by simp) (fun j hj h9 => by
    match j, hj with
    | 0, _ | 1, _ | 2, _ | 3, _ | 4, _ | 5, _ | 6, _ | 7, _ | 8, _ | 9, _ | 10, _ | 11, _ | 12, _ | 13, _ | 14, _ | 15, _ | 16, _ | 17, _ | 18, _ | 19, _ | 21, _ | 22, _ | 23, _ | 24, _ => simp [h0, h1, h2]
    | 20, _ => exact absurd rfl h9
    | j + 25, h => exact absurd h (by omega)) (by simp) he.out
set_option maxRecDepth 100000 in
set_option maxHeartbeats 4000000 in
theorem gS16_wp {f : Nat → Value} {x : World} {v0 v1 : Value} {PC : Ending → World → Prop} {Q : Exit → Act → World → Prop} (h0 : f 21 = v0) (h1 : f 20 = v1) (hc : Calls Try.prog 22 #[v0, v1] x PC) (hr : ∀ e x', PC e x' → ∃ rv, e = .returned rv)
    (hQ : ∀ T' x' rv, T'.size = 136 → (∀ j, j < 25 → j ≠ 22 → T'[j]? = some (f j)) → T'[22]? = some rv → PC (.returned rv) x' → Q .normal ⟨T', []⟩ x') : gS16.wp Try.prog Q ⟨(List.map f (List.range 136)).toArray, []⟩ x := by
  simp only [List.range, List.range.loop, List.map_cons, List.map_nil, h0, h1]
  simp only [gS16, gT16, gT15, gT14, gT13, gT12, gT11, gT10, gT9, gT8, gT7, gT6, gT5, gT4, gT3, gT2, gT1, gT0, Try.f3, Option.getD_some]
  go_wp2_with fail
  refine hc.mono ?_
  rintro e x' he
  obtain ⟨rv, rfl⟩ := hr e x' he
  replace he := Lib.hid he
  go_wp2_with fail
  exact hQ _ _ rv (by simp) (fun j hj h9 => by
    match j, hj with
    | 0, _ | 1, _ | 2, _ | 3, _ | 4, _ | 5, _ | 6, _ | 7, _ | 8, _ | 9, _ | 10, _ | 11, _ | 12, _ | 13, _ | 14, _ | 15, _ | 16, _ | 17, _ | 18, _ | 19, _ | 20, _ | 21, _ | 23, _ | 24, _ => simp [h0, h1]
    | 22, _ => exact absurd rfl h9
    | j + 25, h => exact absurd h (by omega)) (by simp) he.out
set_option maxRecDepth 100000 in
set_option maxHeartbeats 4000000 in
theorem gS17_wp {f : Nat → Value} {x : World} {v0 v1 : Value} {PC : Ending → World → Prop} {Q : Exit → Act → World → Prop} (h0 : f 11 = v0) (h1 : f 10 = v1) (hc : Calls Try.prog 22 #[v0, v1] x PC) (hr : ∀ e x', PC e x' → ∃ rv, e = .returned rv)
    (hQ : ∀ T' x' rv, T'.size = 136 → (∀ j, j < 25 → j ≠ 23 → T'[j]? = some (f j)) → T'[23]? = some rv → PC (.returned rv) x' → Q .normal ⟨T', []⟩ x') : gS17.wp Try.prog Q ⟨(List.map f (List.range 136)).toArray, []⟩ x := by
  simp only [List.range, List.range.loop, List.map_cons, List.map_nil, h0, h1]
  simp only [gS17, gT17, gT16, gT15, gT14, gT13, gT12, gT11, gT10, gT9, gT8, gT7, gT6, gT5, gT4, gT3, gT2, gT1, gT0, Try.f3, Option.getD_some]
  go_wp2_with fail
  refine hc.mono ?_
  rintro e x' he
  obtain ⟨rv, rfl⟩ := hr e x' he
  replace he := Lib.hid he
  go_wp2_with fail
  exact hQ _ _ rv (by simp) (fun j hj h9 => by
    match j, hj with
    | 0, _ | 1, _ | 2, _ | 3, _ | 4, _ | 5, _ | 6, _ | 7, _ | 8, _ | 9, _ | 10, _ | 11, _ | 12, _ | 13, _ | 14, _ | 15, _ | 16, _ | 17, _ | 18, _ | 19, _ | 20, _ | 21, _ | 22, _ | 24, _ => simp [h0, h1]
    | 23, _ => exact absurd rfl h9
    | j + 25, h => exact absurd h (by omega)) (by simp) he.out
set_option maxRecDepth 100000 in
set_option maxHeartbeats 4000000 in
theorem gS18_wp {f : Nat → Value} {x : World} {v0 v1 : Value} {PC : Ending → World → Prop} {Q : Exit → Act → World → Prop} (h0 : f 11 = v0) (h1 : f 12 = v1) (hc : Calls Try.prog 25 #[v0, v1] x PC) (hr : ∀ e x', PC e x' → ∃ rv, e = .returned rv)
    (hQ : ∀ T' x' rv, T'.size = 136 → (∀ j, j < 25 → j ≠ 24 → T'[j]? = some (f j)) → T'[24]? = some rv → PC (.returned rv) x' → Q .normal ⟨T', []⟩ x') : gS18.wp Try.prog Q ⟨(List.map f (List.range 136)).toArray, []⟩ x := by
  simp only [List.range, List.range.loop, List.map_cons, List.map_nil, h0, h1]
  simp only [gS18, gT18, gT17, gT16, gT15, gT14, gT13, gT12, gT11, gT10, gT9, gT8, gT7, gT6, gT5, gT4, gT3, gT2, gT1, gT0, Try.f3, Option.getD_some]
  go_wp2_with fail
  refine hc.mono ?_
  rintro e x' he
  obtain ⟨rv, rfl⟩ := hr e x' he
  replace he := Lib.hid he
  go_wp2_with fail
  exact hQ _ _ rv (by simp) (fun j hj h9 => by
    match j, hj with
    | 0, _ | 1, _ | 2, _ | 3, _ | 4, _ | 5, _ | 6, _ | 7, _ | 8, _ | 9, _ | 10, _ | 11, _ | 12, _ | 13, _ | 14, _ | 15, _ | 16, _ | 17, _ | 18, _ | 19, _ | 20, _ | 21, _ | 22, _ | 23, _ => simp [h0, h1]
    | 24, _ => exact absurd rfl h9
    | j + 25, h => exact absurd h (by omega)) (by simp) he.out
end Go.Proofs.Ytimlbbleblijnaa.Co
