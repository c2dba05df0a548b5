/- package wide's Parse: the walk. -/
import Derived.Test.YtepmcblnhibfeaaDoorWi6
namespace Go.Proofs.YtepmcblnhibfeaaDoor.Wi
open Go.RowKit Go.Sort Go.Lib
set_option linter.unusedVariables false

/-- Two results: a struct in a block, and a number. -/
theorem retP {fn : Func} {p u : Tmp} {g : Nat} {x y z : Value} {tmps : Array Value} {w : World} (h : fn.results = #[.cell p 25, .tmp u]) (hp : tmps[p]?.getD undef = .pointer (some ⟨g, 0, none⟩)) (hz : tmps[u]?.getD undef = z)
    (h0 : w.cell? ⟨g, 0, none⟩ = some x) (h1 : w.cell? ⟨g, 1, none⟩ = some y) : (results fn tmps).run Tryd.prog w = .ok (.tuple #[.agg #[x, y], z]) w := by
  simp [results, h, hp, hz, go_sem, h0, h1]

theorem ret_ans {l : List UInt8} {v er v' er' : Int} (h : v = v') (h' : er = er') : Ending.returned (.tuple #[I128 v, .int .i64 er]) = .returned (.tuple #[I128 v', .int .i64 er']) := by rw [h, h']

theorem trim_size (l : List UInt8) : (trimPrefix l [45]).length ≤ l.length := by
  unfold trimPrefix; split
  · rw [List.length_drop]; omega
  · omega

theorem bytes_below (w : World) (o : Obj) : Below w.heap.size w (w.drew.alloc o) := by go_grown

/-- The block of the bytes, as the loop reads it. -/
def Txt (w : World) (g : Nat) (t : List UInt8) : Prop := ∀ (j : Nat) (h : j < t.length), w.cell? ⟨g, j, none⟩ = some (.int .u8 (t[j].toNat : Int))

theorem Txt.stays {w w' : World} {g : Nat} {t : List UInt8} (h : Txt w g t) {B : Nat} (b : Below B w w') (hg : g < B) : Txt w' g t := fun j hj => by rw [b.cell hg]; exact h j hj

theorem Txt.new (w : World) (t : List UInt8) (cap : Nat) (T : TypeId) (fr : Nat × Nat) : Txt (w.drew.alloc (.cells (bytesRow ⟨t.toArray⟩ cap) T fr)) w.heap.size t := fun j hj => by
  have h := World.cell?_alloc_mark w.drew (bytesRow ⟨t.toArray⟩ cap) T fr j
  have e : w.drew.heap.size = w.heap.size := rfl
  rw [e] at h
  rw [h, bytesRow_at _ _ j (by simpa using hj)]
  simp

set_option maxHeartbeats 4000000 in
theorem parse_long (l : List UInt8) (hl : l.length ≤ 140737488355328) (h : 39 < (trimPrefix l [45]).length) (w : World) :
    Calls Tryd.prog 25 #[.string ⟨l.toArray⟩] w fun e w' => e = .returned (.tuple #[I128 0, .int .i64 5]) ∧ Below w.heap.size w w' := by
  have cc := fun w => Tryd.strings_CutPrefix ⟨l.toArray⟩ ⟨#[45]⟩ w
  simp only at cc
  generalize ht : trimPrefix l [45] = t at *
  have h' : (39 : Int) < (t.length : Int) := by omega
  rw [I128_zero]
  clear hl
  go_enter Tryd.func25, Tryd.ntmps25
  go_wp2_with fail
  refine (cc _).mono ?_
  rintro e w1 ⟨rfl, rfl⟩
  go_wp2
  refine bodyPost_ret (retP (g := w.heap.size) (x := .int .i64 0) (y := .int .u64 0) rfl rfl rfl (by go_cell) (by go_cell)) rfl ?_
  exact ⟨rfl, by go_grown⟩

/-- A block that holds the number n (brought round). -/
def Two (w : World) (g : Nat) (n : Int) : Prop :=
  w.cell? ⟨g, 0, none⟩ = some (.int .i64 (hiI n)) ∧ w.cell? ⟨g, 1, none⟩ = some (.int .u64 (loI n)) ∧ w.frozen? ⟨g, 0, none⟩ = false ∧ w.frozen? ⟨g, 1, none⟩ = false

theorem Two.stays {w w' : World} {g : Nat} {n : Int} (h : Two w g n) {B : Nat} (b : Below B w w') (hg : g < B) : Two w' g n :=
  kept2 b _ _ hg h.1 h.2.1 h.2.2.1 h.2.2.2

theorem Two.set {w : World} {g : Nat} {n : Int} (h : Two w g n) (m : Int) : Two ((w.setCell ⟨g, 0, none⟩ (.int .i64 (hiI m))).setCell ⟨g, 1, none⟩ (.int .u64 (loI m))) g m := by
  obtain ⟨l1, l2⟩ := set2 h.1 h.2.1 (.int .i64 (hiI m)) (.int .u64 (loI m))
  exact ⟨l1, l2, by simp [h.2.2.1], by simp [h.2.2.2]⟩

theorem Two.new (w : World) (n : Int) (T : TypeId) : Two (w.alloc (.cells #[.int .i64 (hiI n), .int .u64 (loI n)] T)) w.heap.size n := by
  refine ⟨?_, ?_, World.frozen?_alloc_new _ _ _ _, World.frozen?_alloc_new _ _ _ _⟩
  · rw [World.cell?_alloc_new]; rfl
  · rw [World.cell?_alloc_new]; rfl

theorem Two.other {w : World} {g b : Nat} {n : Int} (h : Two w g n) (hb : b ≠ g) (u v : Value) : Two ((w.setCell ⟨b, 0, none⟩ u).setCell ⟨b, 1, none⟩ v) g n := by
  refine ⟨?_, ?_, by simp [h.2.2.1], by simp [h.2.2.2]⟩
  · rw [World.cell?_setCell_other _ _ _ _ (fun e => hb (congrArg Addr.block e)), World.cell?_setCell_other _ _ _ _ (fun e => hb (congrArg Addr.block e))]; exact h.1
  · rw [World.cell?_setCell_other _ _ _ _ (fun e => hb (congrArg Addr.block e)), World.cell?_setCell_other _ _ _ _ (fun e => hb (congrArg Addr.block e))]; exact h.2.1

theorem Txt.other {w : World} {g b : Nat} {t : List UInt8} (h : Txt w g t) (hb : b ≠ g) (u v : Value) : Txt ((w.setCell ⟨b, 0, none⟩ u).setCell ⟨b, 1, none⟩ v) g t := fun j hj => by
  rw [World.cell?_setCell_other _ _ _ _ (fun e => hb (congrArg Addr.block e)), World.cell?_setCell_other _ _ _ _ (fun e => hb (congrArg Addr.block e))]; exact h j hj

theorem hi0 : hiI 0 = 0 := by decide
theorem lo0 : loI 0 = 0 := by decide

theorem Txt.new' (w : World) (t : List UInt8) (cap : Nat) (T : TypeId) (fr : Nat × Nat) : Txt ((w.alloc (.cells (bytesRow ⟨t.toArray⟩ cap) T fr)).drew) w.heap.size t := fun j hj => by
  have h := World.cell?_alloc_mark w (bytesRow ⟨t.toArray⟩ cap) T fr j
  have e : (((w.alloc (.cells (bytesRow ⟨t.toArray⟩ cap) T fr)).drew).cell? ⟨w.heap.size, j, none⟩) = (w.alloc (.cells (bytesRow ⟨t.toArray⟩ cap) T fr)).cell? ⟨w.heap.size, j, none⟩ := rfl
  rw [e, h, bytesRow_at _ _ j (by simpa using hj)]
  simp

/-- What the loop keeps. -/
structure PInv (w wr : World) (t : List UInt8) (k : Nat) : Prop where
  hk : k ≤ t.length
  low : Below w.heap.size w wr
  size : w.heap.size + 1 + 1 + 1 ≤ wr.heap.size
  txt : Txt wr (w.heap.size + 1 + 1) t
  res : Two wr w.heap.size 0
  acc : Two wr (w.heap.size + 1) (valN (t.take k) : Nat)

theorem PInv.next {w wr w' : World} {t : List UInt8} {k : Nat} (h : PInv w wr t k) (hk : k < t.length) (b : Below wr.heap.size wr w') {v : Int} (hv : v = (valN (t.take (k + 1)) : Nat)) :
    PInv w ((w'.setCell ⟨w.heap.size + 1, 0, none⟩ (.int .i64 (hiI v))).setCell ⟨w.heap.size + 1, 1, none⟩ (.int .u64 (loI v))) t (k + 1) := by
  have s := h.size
  have s' := b.size
  have hA := h.acc.stays b (by omega)
  have hR := h.res.stays b (by omega)
  have hT := h.txt.stays b (by omega)
  refine ⟨hk, ?_, ?_, hT.other (by omega) _ _, hR.other (by omega) _ _, ?_⟩
  · have := h.low.trans (b.mono (B' := w.heap.size) (by omega))
    go_grown
  · simp only [World.size_setCell]; omega
  · rw [hv]; exact hA.set _

theorem take_val {t : List UInt8} {k : Nat} (h : k < t.length) : valN (t.take (k + 1)) = 10 * valN (t.take k) + (t[k].toNat - 48) := by
  rw [List.take_succ_eq_append_getElem h, valN_snoc]

set_option maxHeartbeats 4000000 in
theorem parse_short (l : List UInt8) (hl : l.length ≤ 140737488355328) (h : ¬ 39 < (trimPrefix l [45]).length) (w : World) (htab : Tab w) :
    Calls Tryd.prog 25 #[.string ⟨l.toArray⟩] w fun e w' => (∃ v er, e = .returned (.tuple #[I128 v, .int .i64 er]) ∧ Ans l v er) ∧ Below w.heap.size w w' := by
  have cc := fun w => Tryd.strings_CutPrefix ⟨l.toArray⟩ ⟨#[45]⟩ w
  simp only at cc
  have Hno := fun b hb hd a => no_dig (l := l) (b := b) hb hd (a := a)
  replace Hno := Lib.hid Hno
  generalize ht : trimPrefix l [45] = t at *
  generalize hm : hasPrefix l [45] = m at *
  have h' : ¬ (39 : Int) < (t.length : Int) := by omega
  have hcv := fun w => run_bytes_of_string (P := Tryd.prog) w 9 56 5 ⟨t.toArray⟩ Tryd.underlying9 Tryd.underlying56 Tryd.underlying5
  have ca := add_any
  have co := of_any
  unfold I128 at ca co
  clear hl
  go_enter Tryd.func25, Tryd.ntmps25
  go_wp2_with fail
  refine (cc _).mono ?_
  rintro e w1 ⟨rfl, rfl⟩
  go_wp2
  go_loopw [22] (fun i wr => ∃ k : Nat, i = .int .i64 k ∧ PInv w wr t k) (fun i _ => t.length - (RowKit.intOf i).toNat)
  case atStart =>
    refine ⟨0, rfl, Nat.zero_le _, by go_grown, by simp [World.size_alloc], ?_, ?_, ?_⟩
    · have e : w.heap.size + 1 + 1 = ((w.alloc (.cells #[.int .i64 0, .int .u64 0] 25)).alloc (.cells #[.int .i64 0, .int .u64 0] 25)).heap.size := by simp only [World.size_alloc]
      rw [e]; exact Txt.new' _ t _ _ _
    · unfold Two; rw [hi0, lo0]
      exact ⟨by go_cell, by go_cell, by go_cell, by go_cell⟩
    · have e : ((valN (t.take 0) : Nat) : Int) = 0 := rfl
      rw [e]; unfold Two; rw [hi0, lo0]
      exact ⟨by go_cell, by go_cell, by go_cell, by go_cell⟩
  case round =>
    obtain ⟨k, rfl, hi⟩ := hrel
    clear hcv
    by_cases hlt : k < t.length
    · have hc := hi.txt k hlt
      have s0 := hi.size
      by_cases hd : isDig t[k]
      · obtain ⟨V, hV⟩ : ∃ V : Int, V = (valN (t.take k) : Nat) := ⟨_, rfl⟩
        have hA := hi.acc
        rw [← hV] at hA
        have hnx := fun w' (b : Below wr.heap.size wr w') v hv => hi.next hlt b (v := v) hv
        obtain ⟨D, hd', hd0, hd9⟩ : ∃ D : Int, (t[k].toNat : Int) = 48 + D ∧ 0 ≤ D ∧ D ≤ 9 := by unfold isDig at hd; exact ⟨(t[k].toNat : Int) - 48, by omega, by omega, by omega⟩
        have htk : ((valN (t.take (k + 1)) : Nat) : Int) = 10 * V + D := by have := take_val hlt; omega
        rw [hd'] at hc
        have c1 : ¬ 48 + D < 48 := by omega
        have c2 : ¬ 57 < 48 + D := by omega
        have c3 : 48 + D - 48 = D := by omega
        have c4 : IntKind.u8.wrap D = D := by rw [IntKind.wrap_u8]; omega
        have c5 : IntKind.i64.wrap D = D := by rw [IntKind.wrap_i64]; omega
        have cD := fun w => co D (by omega) (by omega) w
        clear co hd hd'
        obtain ⟨a1, a2, a3, a4⟩ := id hA
        replace hnx := Lib.hid hnx
        replace htk := Lib.hid htk
        replace hV := Lib.hid hV
        replace hA := Lib.hid hA
        replace s0 := Lib.hid s0
        replace hi := Lib.hid hi
        clear h ht hm
        go_wp2_with fail
        refine (ca V V _).mono ?_
        rintro e w1 ⟨rfl, b1⟩
        have s1 := b1.size
        have B2 := Two.new w1 (V + V) 25
        obtain ⟨e1, e2, e3, e4⟩ := id B2
        go_wp2_with fail
        refine (ca (V + V) (V + V) _).mono ?_
        rintro e w2 ⟨rfl, b2⟩
        have s2 := b2.size
        simp only [World.size_alloc] at s2
        have S0 := s0.out
        replace B2 := B2.stays b2 (by simp only [World.size_alloc]; omega)
        have w02 : Below wr.heap.size wr w2 := joined (by go_grown) b2
        have A2 := hA.out.stays w02 (by omega)
        obtain ⟨f1, f2, f3, f4⟩ := id B2
        replace B2 := B2.set (V + V + (V + V))
        replace A2 := A2.other (b := w1.heap.size) (by omega) (.int .i64 (hiI (V + V + (V + V)))) (.int .u64 (loI (V + V + (V + V))))
        clear a1 a2 a3 a4 e1 e2 e3 e4
        obtain ⟨a1, a2, a3, a4⟩ := id A2
        obtain ⟨e1, e2, e3, e4⟩ := id B2
        replace A2 := Lib.hid A2
        replace B2 := Lib.hid B2
        replace s1 := Lib.hid s1
        replace s2 := Lib.hid s2
        replace S0 := Lib.hid S0
        go_wp2_with fail
        refine (ca (V + V + (V + V)) V _).mono ?_
        rintro e w3 ⟨rfl, b3⟩
        clear a1 a2 a3 a4 e1 e2 e3 e4 f1 f2 f3 f4 A2
        have s3 := b3.size
        simp only [World.size_setCell] at s3
        have S1 := s1.out
        have S2 := s2.out
        have S0' := S0.out
        have w03 : Below wr.heap.size wr w3 := joined (by go_grown) b3
        have B3 := B2.out.stays b3 (by simp only [World.size_setCell]; omega)
        clear B2
        obtain ⟨f1, f2, f3, f4⟩ := id B3
        replace B3 := B3.set (V + V + (V + V) + V)
        obtain ⟨e1, e2, e3, e4⟩ := id B3
        clear B3
        replace s3 := Lib.hid s3
        clear S1 S2 S0'
        go_wp2_with fail
        refine (ca (V + V + (V + V) + V) (V + V + (V + V) + V) _).mono ?_
        rintro e w4 ⟨rfl, b4⟩
        clear e1 e2 e3 e4 f1 f2 f3 f4
        have S1 := s1.out
        have S2 := s2.out
        have S3 := s3.out
        have w04 : Below wr.heap.size wr w4 := joined (by go_grown) b4
        clear S1 S2 S3
        go_wp2_with fail
        refine (cD _).mono ?_
        rintro e w5 ⟨rfl, b5⟩
        have w05 := joined w04 b5
        go_wp2_with fail
        refine (ca (V + V + (V + V) + V + (V + V + (V + V) + V)) D _).mono ?_
        rintro e w6 ⟨rfl, b6⟩
        have w06 := joined w05 b6
        have S0' := S0.out
        have A6 := hA.out.stays w06 (by omega)
        clear S0'
        obtain ⟨a1, a2, a3, a4⟩ := id A6
        have hN := hnx.out w6 w06 (V + V + (V + V) + V + (V + V + (V + V) + V) + D) (by rw [htk.out]; omega)
        replace hN := Lib.hid hN
        go_wp2
        exact ⟨⟨k + 1, by go_num, hN.out⟩, by simp [RowKit.intOf]; omega⟩
      · have hne : ∀ a, In a → itoa a ≠ l := fun a ha => Hno.out t[k] (List.getElem_mem hlt) hd a
        obtain ⟨r1, r2, r3, r4⟩ := hi.res
        rw [hi0] at r1
        rw [lo0] at r2
        obtain ⟨l1, l2⟩ := set2 r1 r2 (.int .i64 0) (.int .u64 0)
        have hlow := hi.low
        have hx : (t[k].toNat : Int) < 48 ∨ ¬ (t[k].toNat : Int) < 48 ∧ 57 < (t[k].toNat : Int) := by unfold isDig at hd; omega
        replace hne := Lib.hid hne
        replace hi := Lib.hid hi
        clear co ca s0 h ht hm hd
        rcases hx with hx | ⟨hx, hx'⟩
        · go_wp2
          refine bodyPost_ret (retP (g := w.heap.size) rfl rfl rfl l1 l2) rfl ?_
          exact ⟨⟨0, 5, by rw [I128_zero]; rfl, Or.inr ⟨rfl, rfl, hne.out⟩⟩, by go_grown⟩
        · go_wp2
          refine bodyPost_ret (retP (g := w.heap.size) rfl rfl rfl l1 l2) rfl ?_
          exact ⟨⟨0, 5, by rw [I128_zero]; rfl, Or.inr ⟨rfl, rfl, hne.out⟩⟩, by go_grown⟩
    · obtain rfl : k = t.length := by have := hi.hk; omega
      have hA := hi.acc
      rw [List.take_length] at hA
      have hR := hi.res
      have hlow := hi.low
      have s0 := hi.size
      have hS : sval l = if m = true then -((valN t : Nat) : Int) else ((valN t : Nat) : Int) := by rw [sval, ht, hm]
      obtain ⟨V, hV⟩ : ∃ V : Int, V = (valN t : Nat) := ⟨_, rfl⟩
      rw [← hV] at hA hS
      have cp := fun n w (h : Tab w) => print_any (red_in n) w h
      have cn := neg_any
      simp only [red_val] at cp
      unfold I128 at cn cp
      clear hV co ca h ht hm hi
      cases m
      · rw [if_neg (by decide)] at hS
        replace hS := Lib.hid hS
        by_cases hE : itoa (red V) = l
        · have cq := fun w h => cp V w h
          rw [hE] at cq
          clear cp
          replace hE := Lib.hid hE
          obtain ⟨a1, a2, a3, a4⟩ := id hA
          replace hA := Lib.hid hA
          replace hR := Lib.hid hR
          replace s0 := Lib.hid s0
          go_wp2_with fail
          have s0 := s0.out
          have hA := hA.out
          have hR := hR.out
          clear a1 a2 a3 a4
          refine (cq _ (htab.stays hlow)).mono ?_
          rintro e w2 ⟨rfl, b2⟩
          have wl := joined hlow b2
          have hA2 := hA.stays b2 (by omega)
          have hR2 := hR.stays b2 (by omega)
          obtain ⟨a1, a2, a3, a4⟩ := hA2
          obtain ⟨r1, r2, r3, r4⟩ := hR2
          obtain ⟨l1, l2⟩ := set2 r1 r2 (.int .i64 (hiI V)) (.int .u64 (loI V))
          go_wp2
          refine bodyPost_ret (retP (g := w.heap.size) rfl rfl rfl l1 l2) rfl ?_
          exact ⟨⟨red V, 0, by rw [red_val]; rfl, Or.inl ⟨red_in _, hE.out, rfl⟩⟩, by go_grown⟩
        · have cq := fun w h => cp V w h
          have hne : ∀ a, In a → itoa a ≠ l := fun a ha => no_other (l := l) (by rw [hS.out]; exact hE) ha
          have hb : (itoa (red V) == l) = false := beq_eq_false_iff_ne.2 hE
          clear cp
          replace hE := Lib.hid hE
          replace hne := Lib.hid hne
          obtain ⟨a1, a2, a3, a4⟩ := id hA
          replace hA := Lib.hid hA
          replace hR := Lib.hid hR
          replace s0 := Lib.hid s0
          go_wp2_with fail
          have s0 := s0.out
          have hA := hA.out
          have hR := hR.out
          clear a1 a2 a3 a4
          refine (cq _ (htab.stays hlow)).mono ?_
          rintro e w2 ⟨rfl, b2⟩
          have wl := joined hlow b2
          have hR2 := hR.stays b2 (by omega)
          obtain ⟨r1, r2, r3, r4⟩ := hR2
          rw [hi0] at r1
          rw [lo0] at r2
          obtain ⟨l1, l2⟩ := set2 r1 r2 (.int .i64 0) (.int .u64 0)
          go_wp2
          refine bodyPost_ret (retP (g := w.heap.size) rfl rfl rfl l1 l2) rfl ?_
          exact ⟨⟨0, 5, by rw [I128_zero]; rfl, Or.inr ⟨rfl, rfl, hne.out⟩⟩, by go_grown⟩
      · rw [if_pos rfl] at hS
        replace hS := Lib.hid hS
        by_cases hE : itoa (red (-V)) = l
        · have cq := fun w h => cp (-V) w h
          rw [hE] at cq
          clear cp
          replace hE := Lib.hid hE
          obtain ⟨a1, a2, a3, a4⟩ := id hA
          replace hR := Lib.hid hR
          replace s0 := Lib.hid s0
          replace hA := Lib.hid hA
          go_wp2_with fail
          refine (cn V _).mono ?_
          rintro e w3 ⟨rfl, b3⟩
          have wl := joined hlow b3
          have s0 := s0.out
          have s3 := b3.size
          have A3 := hA.out.stays b3 (by omega)
          have R3 := hR.out.stays b3 (by omega)
          clear a1 a2 a3 a4
          obtain ⟨a1, a2, a3, a4⟩ := id A3
          replace A3 := A3.set (-V)
          have R3 := R3.other (b := w.heap.size + 1) (by omega) (.int .i64 (hiI (-V))) (.int .u64 (loI (-V)))
          have s4 : w.heap.size + 1 + 1 < ((w3.setCell ⟨w.heap.size + 1, 0, none⟩ (.int .i64 (hiI (-V)))).setCell ⟨w.heap.size + 1, 1, none⟩ (.int .u64 (loI (-V)))).heap.size := by simp only [World.size_setCell]; omega
          obtain ⟨e1, e2, e3, e4⟩ := id A3
          have wl4 : Below w.heap.size w ((w3.setCell ⟨w.heap.size + 1, 0, none⟩ (.int .i64 (hiI (-V)))).setCell ⟨w.heap.size + 1, 1, none⟩ (.int .u64 (loI (-V)))) := by go_grown
          replace A3 := Lib.hid A3
          replace R3 := Lib.hid R3
          replace s0 := Lib.hid s0
          replace s3 := Lib.hid s3
          replace s4 := Lib.hid s4
          go_wp2_with fail
          have s4 := s4.out
          have hA := A3.out
          have hR := R3.out
          clear a1 a2 a3 a4 e1 e2 e3 e4
          refine (cq _ (htab.stays wl4)).mono ?_
          rintro e w2 ⟨rfl, b2⟩
          have wl := joined wl4 b2
          have hA2 := hA.stays b2 (by omega)
          have hR2 := hR.stays b2 (by omega)
          obtain ⟨a1, a2, a3, a4⟩ := hA2
          obtain ⟨r1, r2, r3, r4⟩ := hR2
          obtain ⟨l1, l2⟩ := set2 r1 r2 (.int .i64 (hiI (-V))) (.int .u64 (loI (-V)))
          go_wp2
          refine bodyPost_ret (retP (g := w.heap.size) rfl rfl rfl l1 l2) rfl ?_
          exact ⟨⟨red (-V), 0, by rw [red_val]; rfl, Or.inl ⟨red_in _, hE.out, rfl⟩⟩, by go_grown⟩
        · have cq := fun w h => cp (-V) w h
          have hne : ∀ a, In a → itoa a ≠ l := fun a ha => no_other (l := l) (by rw [hS.out]; exact hE) ha
          have hb : (itoa (red (-V)) == l) = false := beq_eq_false_iff_ne.2 hE
          clear cp
          replace hE := Lib.hid hE
          replace hne := Lib.hid hne
          obtain ⟨a1, a2, a3, a4⟩ := id hA
          replace hR := Lib.hid hR
          replace s0 := Lib.hid s0
          replace hA := Lib.hid hA
          go_wp2_with fail
          refine (cn V _).mono ?_
          rintro e w3 ⟨rfl, b3⟩
          have wl := joined hlow b3
          have s0 := s0.out
          have s3 := b3.size
          have A3 := hA.out.stays b3 (by omega)
          have R3 := hR.out.stays b3 (by omega)
          clear a1 a2 a3 a4
          obtain ⟨a1, a2, a3, a4⟩ := id A3
          replace A3 := A3.set (-V)
          have R3 := R3.other (b := w.heap.size + 1) (by omega) (.int .i64 (hiI (-V))) (.int .u64 (loI (-V)))
          have s4 : w.heap.size + 1 + 1 < ((w3.setCell ⟨w.heap.size + 1, 0, none⟩ (.int .i64 (hiI (-V)))).setCell ⟨w.heap.size + 1, 1, none⟩ (.int .u64 (loI (-V)))).heap.size := by simp only [World.size_setCell]; omega
          obtain ⟨e1, e2, e3, e4⟩ := id A3
          have wl4 : Below w.heap.size w ((w3.setCell ⟨w.heap.size + 1, 0, none⟩ (.int .i64 (hiI (-V)))).setCell ⟨w.heap.size + 1, 1, none⟩ (.int .u64 (loI (-V)))) := by go_grown
          replace A3 := Lib.hid A3
          replace R3 := Lib.hid R3
          replace s0 := Lib.hid s0
          replace s3 := Lib.hid s3
          replace s4 := Lib.hid s4
          go_wp2_with fail
          have s4 := s4.out
          have hA := A3.out
          have hR := R3.out
          clear a1 a2 a3 a4 e1 e2 e3 e4
          refine (cq _ (htab.stays wl4)).mono ?_
          rintro e w2 ⟨rfl, b2⟩
          have wl := joined wl4 b2
          have hR2 := hR.stays b2 (by omega)
          obtain ⟨r1, r2, r3, r4⟩ := hR2
          rw [hi0] at r1
          rw [lo0] at r2
          obtain ⟨l1, l2⟩ := set2 r1 r2 (.int .i64 0) (.int .u64 0)
          go_wp2
          refine bodyPost_ret (retP (g := w.heap.size) rfl rfl rfl l1 l2) rfl ?_
          exact ⟨⟨0, 5, by rw [I128_zero]; rfl, Or.inr ⟨rfl, rfl, hne.out⟩⟩, by go_grown⟩

end Go.Proofs.YtepmcblnhibfeaaDoor.Wi
