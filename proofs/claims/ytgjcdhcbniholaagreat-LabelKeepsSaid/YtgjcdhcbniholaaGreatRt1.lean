/- LabelReturns: the walk. -/
import Derived.Test.YtgjcdhcbniholaaGreatRt0
import Derived.Test.YtgjcdhcbniholaaGreatSm
import Derived.Test.YtgjcdhcbniholaaGreatCk
import Derived.Test.YtgjcdhcbniholaaGreatPr1
namespace Go.Proofs.YtgjcdhcbniholaaGreat.Rt
open Go.RowKit Go.Proofs.YtgjcdhcbniholaaGreat.La Go.Proofs.YtgjcdhcbniholaaGreat.Rp Go.Proofs.YtgjcdhcbniholaaGreat.Pr Go.Proofs.YtgjcdhcbniholaaGreat.Pl Go.Proofs.YtgjcdhcbniholaaGreat.Sl Go.Proofs.YtgjcdhcbniholaaGreat.Ck
set_option linter.unusedVariables false

/-- A description that came in, with its sizes. -/
structure Arg (d : DD) (w : World) : Prop where
  rd : Rd w w.heap.size 2 d.A (labs d.l) d.l.length
  cap : d.l.length ≤ d.c
  len : d.c ≤ 9223372036854775807
  name : d.name.size ≤ 9223372036854775807
  help : d.help.size ≤ 9223372036854775807
  texts : ∀ x ∈ d.l, x.1.size ≤ 9223372036854775807 ∧ x.2.size ≤ 9223372036854775807
theorem Arg.below {d : DD} {w w' : World} (h : Arg d w) (k : Below w.heap.size w w') : Arg d w' := ⟨(h.rd.below k).mono k.size, h.cap, h.len, h.name, h.help, h.texts⟩
theorem Arg.check {d : DD} {w w' : World} (h : Arg d w) (k : Below w.heap.size w w') : Calls Tryz.prog 11 #[d.v] w' fun e w2 => e = .returned (.int .i64 (chkD d)) ∧ Below w'.heap.size w' w2 :=
  check_any d (h.below k).rd h.cap h.len h.name h.help h.texts

theorem chkR_zero : ∀ (r pre : List Lab), chkR pre r = 0 → ∀ i (h : i < r.length), lnameL r[i].1.data.toList = true ∧ behE (pre ++ r.take i) r[i].1 = 0 ∧ valE r[i].2 = 0
  | [], pre, _, i, h => absurd h (by simp)
  | x :: r, pre, hz, i, h => by
    rw [chkR] at hz
    split at hz
    · cases hz
    rename_i h1
    split at hz
    · rename_i h2; exact absurd hz h2
    rename_i h2
    split at hz
    · rename_i h3; exact absurd hz h3
    rename_i h3
    cases i with
    | zero => exact ⟨by simpa using h1, by simpa using h3, by simpa using h2⟩
    | succ i =>
      have := chkR_zero r (pre ++ [x]) hz i (by simpa using h)
      simpa using this
/-- What a description is like that may be. -/
theorem chkD_zero {d : DD} (h : chkD d = 0) : nameL d.name.data.toList = true ∧ valE d.help = 0 ∧ LabsOk d.l := by
  unfold chkD at h
  split at h
  · cases h
  split at h
  · cases h
  rename_i h1
  split at h
  · rename_i h2; exact absurd h h2
  rename_i h2
  split at h
  · cases h
  rename_i h3
  refine ⟨by simpa using h1, Decidable.not_not.1 h2, ⟨by omega, fun i hi => ?_⟩⟩
  simpa using chkR_zero d.l [] h i hi

theorem cmp_zero (a b : DD) : cmpD a b = 0 ↔ (a.name = b.name ∧ a.l = b.l) := by
  have h := (cB_ord.lex labs_ord).eq (a.name, a.l) (b.name, b.l)
  rw [← cmpD_ord a b] at h
  rw [h]
  exact Prod.mk.injEq .. ▸ Iff.rfl

set_option maxRecDepth 100000 in
set_option maxHeartbeats 8000000 in
theorem returns_any (a b : DD) (w : World) (ha : Arg a w) (hb : Arg b w) :
    Calls Tryz.prog 4 #[a.v, b.v] w fun e w' => e = .returned (.bool true) ∧ Below w.heap.size w w' := by
  have ca := Lib.hid (awake_any ((w.alloc (.cells #[.int .i64 a.kind, .string a.name, .string a.help, .slice a.A a.l.length a.c] 35)).alloc (.cells #[.int .i64 b.kind, .string b.name, .string b.help, .slice b.A b.l.length b.c] 35)))
  have cka := fun w' k => ha.check (w' := w') k
  have ckb := fun w' k => hb.check (w' := w') k
  have hrda := fun w' (k : Below w.heap.size w w') => (ha.below k).rd
  have hrdb := fun w' (k : Below w.heap.size w w') => (hb.below k).rd
  have hcmp := fun w' (k : Below w.heap.size w w') => compare_any (w := w') a b ⟨(ha.below k).rd, by have := ha.cap; have := ha.len; omega⟩ ⟨(hb.below k).rd, by have := hb.cap; have := hb.len; omega⟩ (Nat.le_refl _)
  have hcz := cmp_zero a b
  have hza := @chkD_zero a
  have hzb := @chkD_zero b
  obtain ⟨ra, hra⟩ : ∃ ra, ra = chkD a := ⟨_, rfl⟩
  obtain ⟨rb, hrb⟩ : ∃ rb, rb = chkD b := ⟨_, rfl⟩
  rw [← hra] at cka hza
  rw [← hrb] at ckb hzb
  clear hra hrb ha hb
  obtain ⟨k1, n1, h1, A1, c1, l1⟩ := a
  obtain ⟨k2, n2, h2, A2, c2, l2⟩ := b
  unfold DD.v at *
  dsimp only at *
  obtain ⟨X, hX⟩ : ∃ X, X = cmpD ⟨k1, n1, h1, A1, c1, l1⟩ ⟨k2, n2, h2, A2, c2, l2⟩ := ⟨_, rfl⟩
  rw [← hX] at hcmp hcz
  clear hX
  obtain ⟨m1, hm1⟩ : ∃ m1, m1 = l1.length := ⟨_, rfl⟩
  obtain ⟨m2, hm2⟩ : ∃ m2, m2 = l2.length := ⟨_, rfl⟩
  have hp1 := fun w' (k : Below w.heap.size w w') ht => print_any n1 A1 c1 l1 w' (hrda w' k) ht
  have hp2 := fun w' (k : Below w.heap.size w w') ht => print_any n2 A2 c2 l2 w' (hrdb w' k) ht
  have hs12 := fun w' (k : Below w.heap.size w w') h16 h17 => Sm.same_any A1 A2 c1 c2 l1 l2 w' (hrda w' k) (hrdb w' k) h16 h17
  have hs1 := fun (w' : World) (k : Below w.heap.size w w') (A : Option Addr) (c : Nat) (l : List Lab) hrd h16 h17 => Sm.same_any A A1 c c1 l l1 w' hrd (hrda w' k) h16 h17
  rw [← hm1] at ca cka hcmp hp1 hs12 hs1 ⊢
  rw [← hm2] at ca ckb hcmp hp2 hs12 ⊢
  replace cka := Lib.hid cka
  replace ckb := Lib.hid ckb
  replace hrda := Lib.hid hrda
  replace hrdb := Lib.hid hrdb
  replace hcmp := Lib.hid hcmp
  replace hcz := Lib.hid hcz
  replace hza := Lib.hid hza
  replace hzb := Lib.hid hzb
  replace hp1 := Lib.hid hp1
  replace hp2 := Lib.hid hp2
  replace hs12 := Lib.hid hs12
  replace hs1 := Lib.hid hs1
  replace hm1 := Lib.hid hm1
  replace hm2 := Lib.hid hm2
  go_enter Tryz.func4, Tryz.ntmps4
  go_wp2_with fail
  refine ca.out.mono ?_
  rintro e w1 ⟨rfl, hb1⟩
  have hw1 : Below w.heap.size w w1 := (((Below.refl _ w).alloc (Nat.le_refl _) _).alloc (by simp) _).trans (hb1.mono (by simp; omega))
  simp only [World.size_alloc] at hb1
  have g1 : w1.heap[w.heap.size]? = some (.cells #[.int .i64 k1, .string n1, .string h1, .slice A1 m1 c1] 35 (0, 0)) :=
    (hb1.block _ (by omega)).trans ((heap_alloc_old _ _ (by simp)).trans (heap_alloc_new _ _))
  have g2 : w1.heap[w.heap.size + 1]? = some (.cells #[.int .i64 k2, .string n2, .string h2, .slice A2 m2 c2] 35 (0, 0)) := by
    have hn := heap_alloc_new (w.alloc (.cells #[.int .i64 k1, .string n1, .string h1, .slice A1 m1 c1] 35)) (.cells #[.int .i64 k2, .string n2, .string h2, .slice A2 m2 c2] 35)
    simp only [World.size_alloc] at hn
    exact (hb1.block _ (by omega)).trans hn
  clear ca hb1
  have y10 : w1.cell? ⟨w.heap.size, 0, none⟩ = some (.int .i64 k1) := by rw [cell_of_row _ _ _ _ _ _ g1]; rfl
  have y11 : w1.cell? ⟨w.heap.size, 1, none⟩ = some (.string n1) := by rw [cell_of_row _ _ _ _ _ _ g1]; rfl
  have y12 : w1.cell? ⟨w.heap.size, 2, none⟩ = some (.string h1) := by rw [cell_of_row _ _ _ _ _ _ g1]; rfl
  have y13 : w1.cell? ⟨w.heap.size, 3, none⟩ = some (.slice A1 m1 c1) := by rw [cell_of_row _ _ _ _ _ _ g1]; rfl
  have y20 : w1.cell? ⟨w.heap.size + 1, 0, none⟩ = some (.int .i64 k2) := by rw [cell_of_row _ _ _ _ _ _ g2]; rfl
  have y21 : w1.cell? ⟨w.heap.size + 1, 1, none⟩ = some (.string n2) := by rw [cell_of_row _ _ _ _ _ _ g2]; rfl
  have y22 : w1.cell? ⟨w.heap.size + 1, 2, none⟩ = some (.string h2) := by rw [cell_of_row _ _ _ _ _ _ g2]; rfl
  have y23 : w1.cell? ⟨w.heap.size + 1, 3, none⟩ = some (.slice A2 m2 c2) := by rw [cell_of_row _ _ _ _ _ _ g2]; rfl
  have hlt : w.heap.size + 1 < w1.heap.size := lt_of_heap g2
  replace g1 := Lib.hid g1
  replace g2 := Lib.hid g2
  have c1' := cka.out w1 hw1
  replace c1' := Lib.hid c1'
  by_cases hz1 : ra ≠ 0
  · have t1 : (ra != 0) = true := by simpa using hz1
    clear hz1
    go_wp2_with fail
    refine c1'.out.mono ?_
    rintro e w2 ⟨rfl, hb2⟩
    go_wp2
    go_ret
    exact ⟨rfl, hw1.trans (hb2.mono hw1.size)⟩
  obtain ⟨nm1, vh1, ok1⟩ := hza.out (Decidable.not_not.1 hz1)
  have t1 : (ra != 0) = false := by simpa using hz1
  replace nm1 := Lib.hid nm1
  replace vh1 := Lib.hid vh1
  replace ok1 := Lib.hid ok1
  clear hz1
  go_wp2_with fail
  refine c1'.out.mono ?_
  rintro e w2 ⟨rfl, hb2⟩
  clear y10 y11 y12 y13 y20 y21 y22 y23
  replace g1 := (hb2.block _ (by omega)).trans g1.out
  replace g2 := (hb2.block _ hlt).trans g2.out
  have hw2 := hw1.trans (hb2.mono hw1.size)
  replace hlt := Nat.lt_of_lt_of_le hlt hb2.size
  clear hb2 c1'
  have y10 : w2.cell? ⟨w.heap.size, 0, none⟩ = some (.int .i64 k1) := by rw [cell_of_row _ _ _ _ _ _ g1]; rfl
  have y11 : w2.cell? ⟨w.heap.size, 1, none⟩ = some (.string n1) := by rw [cell_of_row _ _ _ _ _ _ g1]; rfl
  have y12 : w2.cell? ⟨w.heap.size, 2, none⟩ = some (.string h1) := by rw [cell_of_row _ _ _ _ _ _ g1]; rfl
  have y13 : w2.cell? ⟨w.heap.size, 3, none⟩ = some (.slice A1 m1 c1) := by rw [cell_of_row _ _ _ _ _ _ g1]; rfl
  have y20 : w2.cell? ⟨w.heap.size + 1, 0, none⟩ = some (.int .i64 k2) := by rw [cell_of_row _ _ _ _ _ _ g2]; rfl
  have y21 : w2.cell? ⟨w.heap.size + 1, 1, none⟩ = some (.string n2) := by rw [cell_of_row _ _ _ _ _ _ g2]; rfl
  have y22 : w2.cell? ⟨w.heap.size + 1, 2, none⟩ = some (.string h2) := by rw [cell_of_row _ _ _ _ _ _ g2]; rfl
  have y23 : w2.cell? ⟨w.heap.size + 1, 3, none⟩ = some (.slice A2 m2 c2) := by rw [cell_of_row _ _ _ _ _ _ g2]; rfl
  replace g1 := Lib.hid g1
  replace g2 := Lib.hid g2
  have c2' := ckb.out w2 hw2
  replace c2' := Lib.hid c2'
  by_cases hz2 : rb ≠ 0
  · have t2 : (rb != 0) = true := by simpa using hz2
    clear hz2
    go_wp2_with fail
    refine c2'.out.mono ?_
    rintro e w3 ⟨rfl, hb3⟩
    go_wp2
    go_ret
    exact ⟨rfl, hw2.trans (hb3.mono hw2.size)⟩
  obtain ⟨nm2, vh2, ok2⟩ := hzb.out (Decidable.not_not.1 hz2)
  have t2 : (rb != 0) = false := by simpa using hz2
  replace nm2 := Lib.hid nm2
  replace vh2 := Lib.hid vh2
  replace ok2 := Lib.hid ok2
  clear hz2
  go_wp2_with fail
  refine c2'.out.mono ?_
  rintro e w3 ⟨rfl, hb3⟩
  clear y10 y11 y12 y13 y20 y21 y22 y23
  replace g1 := (hb3.block _ (by omega)).trans g1.out
  replace g2 := (hb3.block _ hlt).trans g2.out
  have hw3 := hw2.trans (hb3.mono hw2.size)
  replace hlt := Nat.lt_of_lt_of_le hlt hb3.size
  clear hb3 c2'
  have z10 : w3.cell? ⟨w.heap.size, 0, none⟩ = some (.int .i64 k1) := by rw [cell_of_row _ _ _ _ _ _ g1]; rfl
  have z11 : w3.cell? ⟨w.heap.size, 1, none⟩ = some (.string n1) := by rw [cell_of_row _ _ _ _ _ _ g1]; rfl
  have z12 : w3.cell? ⟨w.heap.size, 2, none⟩ = some (.string h1) := by rw [cell_of_row _ _ _ _ _ _ g1]; rfl
  have z13 : w3.cell? ⟨w.heap.size, 3, none⟩ = some (.slice A1 m1 c1) := by rw [cell_of_row _ _ _ _ _ _ g1]; rfl
  have z20 : w3.cell? ⟨w.heap.size + 1, 0, none⟩ = some (.int .i64 k2) := by rw [cell_of_row _ _ _ _ _ _ g2]; rfl
  have z21 : w3.cell? ⟨w.heap.size + 1, 1, none⟩ = some (.string n2) := by rw [cell_of_row _ _ _ _ _ _ g2]; rfl
  have z22 : w3.cell? ⟨w.heap.size + 1, 2, none⟩ = some (.string h2) := by rw [cell_of_row _ _ _ _ _ _ g2]; rfl
  have z23 : w3.cell? ⟨w.heap.size + 1, 3, none⟩ = some (.slice A2 m2 c2) := by rw [cell_of_row _ _ _ _ _ _ g2]; rfl
  replace g1 := Lib.hid g1
  replace g2 := Lib.hid g2
  clear z10 z12 z20 z22
  have ht1 : tot n1 l1 m1 ≤ 536870912 := by
    rw [hm1.out]
    have := tot_small n1 l1 nm1.out ok1.out l1.length (Nat.le_refl _)
    have := ok1.out.many
    omega
  have ht2 : tot n2 l2 m2 ≤ 536870912 := by
    rw [hm2.out]
    have := tot_small n2 l2 nm2.out ok2.out l2.length (Nat.le_refl _)
    have := ok2.out.many
    omega
  have cp1 := fun (w' : World) (k : Below w3.heap.size w3 w') => hp1.out w' (hw3.trans (k.mono hw3.size)) ht1
  have cp2 := fun (w' : World) (k : Below w3.heap.size w3 w') => hp2.out w' (hw3.trans (k.mono hw3.size)) ht2
  obtain ⟨S, hS⟩ : ∃ S, S = prS n1 l1 := ⟨_, rfl⟩
  obtain ⟨T, hT⟩ : ∃ T, T = prS n2 l2 := ⟨_, rfl⟩
  rw [← hS] at cp1
  rw [← hT] at cp2
  replace hS := Lib.hid hS
  replace hT := Lib.hid hT
  replace cp1 := Lib.hid cp1
  replace cp2 := Lib.hid cp2
  clear hp1 hp2
  go_wp2
  refine Reg.region_below (by kernel_rfl) (by kernel_rfl) ?_
  intro Sx _ f hf hs
  have y11 := Reg.keepc hf (by omega) z11
  have y13 := Reg.keepc hf (by omega) z13
  have y21 := Reg.keepc hf (by omega) z21
  have y23 := Reg.keepc hf (by omega) z23
  have q1 := fun s => cp1.out (f s) (hf s)
  have q2 := fun s => cp2.out (f s) (hf s)
  clear z11 z13 z21 z23 cp1 cp2
  repeat (go_big_quiet_step ((first | (go_at_call 12; with_reducible exact Reg.met hs (q1 _)) | (go_at_call 12; with_reducible exact Reg.met hs (q2 _)))))
  refine wpQuiet_nil ?_
  intro s
  have hb4 := hf s
  obtain ⟨w4, hw4e⟩ : ∃ w4, w4 = f s := ⟨_, rfl⟩
  rw [← hw4e] at hb4 ⊢
  clear hw4e hs hf q1 q2 y11 y13 y21 y23
  replace g1 := (hb4.block _ (by omega)).trans g1.out
  replace g2 := (hb4.block _ hlt).trans g2.out
  have hw4 := hw3.trans (hb4.mono hw3.size)
  replace hlt := Nat.lt_of_lt_of_le hlt hb4.size
  clear hb4
  replace g1 := Lib.hid g1
  replace g2 := Lib.hid g2
  have ht1' : tot n1 l1 l1.length ≤ 536870912 := by rw [← hm1.out]; exact ht1
  have hSz : S.size ≤ 140737488355328 := by
    rw [hS.out]
    show (prT n1 l1).toArray.size ≤ _
    have h1 := prN_len n1 l1 l1.length
    unfold prT
    split
    · simp; have := nameL_len nm1.out; simp at this; omega
    · simp; omega
  have cpa := parse_any S hSz w4
  have hser : serR S = .ok n1 l1 := by rw [hS.out]; exact serR_forth n1 l1 nm1.out ok1.out
  rw [hser] at cpa
  replace cpa := Lib.hid cpa
  clear hSz hser ht1 ht2 ht1'
  go_wp2_with fail
  refine cpa.out.mono ?_
  rintro e w5 ⟨A, c, rfl, hown, hb5⟩
  replace g1 := (hb5.block _ (by omega)).trans g1.out
  replace g2 := (hb5.block _ hlt).trans g2.out
  have hw5 := hw4.trans (hb5.mono hw4.size)
  replace hlt := Nat.lt_of_lt_of_le hlt hb5.size
  clear hb5 cpa
  have hrd5 : Rd w5 w5.heap.size 2 A (labs l1) l1.length := Rd.of_own hown (fun g hg => by subst hg; exact (own_lt hown _ rfl).2)
  replace hrd5 := Lib.hid hrd5
  clear hown
  have y12 : w5.cell? ⟨w.heap.size, 2, none⟩ = some (.string h1) := by rw [cell_of_row _ _ _ _ _ _ g1]; rfl
  replace g1 := Lib.hid g1
  replace g2 := Lib.hid g2
  have hl1 := val_len vh1.out
  have ch := help_any h1 (by omega) w5
  replace ch := Lib.hid ch
  have hh1 : (escS pH h1).size ≤ 140737488355328 := by
    show (Rp.escL pH h1.data.toList).toArray.size ≤ _
    have q1 := escL_len pH h1.data.toList
    have q2 := hits_le pH h1.data.toList
    simp at *
    omega
  have cu := unhelp_any (escS pH h1) hh1
  rw [unhR_forth h1] at cu
  unfold unhE at cu
  simp only at cu
  rw [show (⟨h1.data.toList.toArray⟩ : ByteArray) = h1 by simp] at cu
  obtain ⟨E, hE⟩ : ∃ E, E = escS pH h1 := ⟨_, rfl⟩
  rw [← hE] at cu ch
  replace cu := Lib.hid cu
  rw [← hm1.out]
  clear hE hh1 hl1
  go_wp2_with fail
  refine ch.out.mono ?_
  rintro e w6 ⟨rfl, hb6⟩
  replace g1 := (hb6.block _ (by omega)).trans g1.out
  replace g2 := (hb6.block _ hlt).trans g2.out
  have hw6 := hw5.trans (hb6.mono hw5.size)
  replace hlt := Nat.lt_of_lt_of_le hlt hb6.size
  have hrd6 := hrd5.out.below hb6
  replace hrd6 := hrd6.mono hb6.size
  clear hb6 ch hrd5 y12
  replace hrd6 := Lib.hid hrd6
  replace g1 := Lib.hid g1
  replace g2 := Lib.hid g2
  go_wp2_with fail
  refine (cu.out _).mono ?_
  rintro e w7 ⟨rfl, hb7⟩
  replace g1 := (hb7.block _ (by omega)).trans g1.out
  replace g2 := (hb7.block _ hlt).trans g2.out
  have hw7 := hw6.trans (hb7.mono hw6.size)
  replace hlt := Nat.lt_of_lt_of_le hlt hb7.size
  have hrd7 := (hrd6.out.below hb7).mono hb7.size
  clear hb7 cu hrd6
  replace hrd7 := Lib.hid hrd7
  have y10 : w7.cell? ⟨w.heap.size, 0, none⟩ = some (.int .i64 k1) := by rw [cell_of_row _ _ _ _ _ _ g1]; rfl
  have y11 : w7.cell? ⟨w.heap.size, 1, none⟩ = some (.string n1) := by rw [cell_of_row _ _ _ _ _ _ g1]; rfl
  have y12 : w7.cell? ⟨w.heap.size, 2, none⟩ = some (.string h1) := by rw [cell_of_row _ _ _ _ _ _ g1]; rfl
  have y13 : w7.cell? ⟨w.heap.size, 3, none⟩ = some (.slice A1 m1 c1) := by rw [cell_of_row _ _ _ _ _ _ g1]; rfl
  have y20 : w7.cell? ⟨w.heap.size + 1, 0, none⟩ = some (.int .i64 k2) := by rw [cell_of_row _ _ _ _ _ _ g2]; rfl
  have y21 : w7.cell? ⟨w.heap.size + 1, 1, none⟩ = some (.string n2) := by rw [cell_of_row _ _ _ _ _ _ g2]; rfl
  have y22 : w7.cell? ⟨w.heap.size + 1, 2, none⟩ = some (.string h2) := by rw [cell_of_row _ _ _ _ _ _ g2]; rfl
  have y23 : w7.cell? ⟨w.heap.size + 1, 3, none⟩ = some (.slice A2 m2 c2) := by rw [cell_of_row _ _ _ _ _ _ g2]; rfl
  replace g1 := Lib.hid g1
  replace g2 := Lib.hid g2
  have cc := hcmp.out w7 hw7
  replace cc := Lib.hid cc
  clear hcmp
  go_wp2_with fail
  refine cc.out.mono ?_
  rintro e w8 ⟨rfl, hb8⟩
  clear y10 y11 y12 y13 y20 y21 y22 y23
  replace g1 := (hb8.block _ (by omega)).trans g1.out
  replace g2 := (hb8.block _ hlt).trans g2.out
  have hw8 := hw7.trans (hb8.mono hw7.size)
  replace hlt := Nat.lt_of_lt_of_le hlt hb8.size
  have hrd8 := (hrd7.out.below hb8).mono hb8.size
  clear hb8 cc hrd7
  have y10 : w8.cell? ⟨w.heap.size, 0, none⟩ = some (.int .i64 k1) := by rw [cell_of_row _ _ _ _ _ _ g1]; rfl
  have y11 : w8.cell? ⟨w.heap.size, 1, none⟩ = some (.string n1) := by rw [cell_of_row _ _ _ _ _ _ g1]; rfl
  have y12 : w8.cell? ⟨w.heap.size, 2, none⟩ = some (.string h1) := by rw [cell_of_row _ _ _ _ _ _ g1]; rfl
  have y13 : w8.cell? ⟨w.heap.size, 3, none⟩ = some (.slice A1 m1 c1) := by rw [cell_of_row _ _ _ _ _ _ g1]; rfl
  have y20 : w8.cell? ⟨w.heap.size + 1, 0, none⟩ = some (.int .i64 k2) := by rw [cell_of_row _ _ _ _ _ _ g2]; rfl
  have y21 : w8.cell? ⟨w.heap.size + 1, 1, none⟩ = some (.string n2) := by rw [cell_of_row _ _ _ _ _ _ g2]; rfl
  have y22 : w8.cell? ⟨w.heap.size + 1, 2, none⟩ = some (.string h2) := by rw [cell_of_row _ _ _ _ _ _ g2]; rfl
  have y23 : w8.cell? ⟨w.heap.size + 1, 3, none⟩ = some (.slice A2 m2 c2) := by rw [cell_of_row _ _ _ _ _ _ g2]; rfl
  have hmany1 := ok1.out.many
  have hmany2 := ok2.out.many
  have cs1 := hs1.out w8 hw8 A c l1 hrd8 (by omega) (by rw [hm1.out]; omega)
  rw [decide_eq_true rfl, ← hm1.out] at cs1
  have hSl : (S = T) ↔ (n1 = n2 ∧ l1 = l2) := by rw [hS.out, hT.out]; exact prS_inj nm1.out ok1.out nm2.out ok2.out
  have cs2 := fun (w' : World) (k : Below w8.heap.size w8 w') => hs12.out w' (hw8.trans (k.mono hw8.size)) (by rw [hm1.out]; omega) (by rw [hm2.out]; omega)
  have hXz := hcz.out
  replace cs1 := Lib.hid cs1
  replace cs2 := Lib.hid cs2
  replace g1 := Lib.hid g1
  replace g2 := Lib.hid g2
  clear hs1 hs12 hrd8 hmany1 hmany2
  have tl : ∀ (x y : ByteArray), x ≠ y → (x.toList == y.toList) = false := fun x y h => by
    have hne : x.toList ≠ y.toList := fun e => h (by
      rw [ByteArray.toList_eq, ByteArray.toList_eq] at e
      exact ByteArray.ext (Array.toList_inj.1 e))
    simp [hne]
  by_cases hn : n1 = n2
  · by_cases hl : l1 = l2
    · have hX : X = 0 := hXz.2 ⟨hn, hl⟩
      have hST : S = T := hSl.2 ⟨hn, hl⟩
      rw [decide_eq_true hl] at cs2
      subst hX
      subst hST
      subst hn
      clear tl hXz hSl hl
      go_wp2_with fail
      refine cs1.out.mono ?_
      rintro e w9 ⟨rfl, hb9⟩
      have hw9 := hw8.trans (hb9.mono hw8.size)
      have c9 := cs2.out w9 hb9
      clear y10 y11 y12 y13 y20 y21 y22 y23 cs1
      replace g1 := (hb9.block _ (by omega)).trans g1.out
      replace g2 := (hb9.block _ hlt).trans g2.out
      have y10 : w9.cell? ⟨w.heap.size, 0, none⟩ = some (.int .i64 k1) := by rw [cell_of_row _ _ _ _ _ _ g1]; rfl
      have y11 : w9.cell? ⟨w.heap.size, 1, none⟩ = some (.string n1) := by rw [cell_of_row _ _ _ _ _ _ g1]; rfl
      have y12 : w9.cell? ⟨w.heap.size, 2, none⟩ = some (.string h1) := by rw [cell_of_row _ _ _ _ _ _ g1]; rfl
      have y13 : w9.cell? ⟨w.heap.size, 3, none⟩ = some (.slice A1 m1 c1) := by rw [cell_of_row _ _ _ _ _ _ g1]; rfl
      have y20 : w9.cell? ⟨w.heap.size + 1, 0, none⟩ = some (.int .i64 k2) := by rw [cell_of_row _ _ _ _ _ _ g2]; rfl
      have y21 : w9.cell? ⟨w.heap.size + 1, 1, none⟩ = some (.string n1) := by rw [cell_of_row _ _ _ _ _ _ g2]; rfl
      have y22 : w9.cell? ⟨w.heap.size + 1, 2, none⟩ = some (.string h2) := by rw [cell_of_row _ _ _ _ _ _ g2]; rfl
      have y23 : w9.cell? ⟨w.heap.size + 1, 3, none⟩ = some (.slice A2 m2 c2) := by rw [cell_of_row _ _ _ _ _ _ g2]; rfl
      replace g1 := Lib.hid g1
      replace g2 := Lib.hid g2
      clear hb9
      replace c9 := Lib.hid c9
      go_wp2_with fail
      refine c9.out.mono ?_
      rintro e w10 ⟨rfl, hb10⟩
      go_wp2
      go_ret
      exact ⟨rfl, hw9.trans (hb10.mono hw9.size)⟩
    · have hX : ¬ X = 0 := fun e => hl (hXz.1 e).2
      have hST : ¬ S = T := fun e => hl (hSl.1 e).2
      have tST := tl S T hST
      have tX : (X == 0) = false := by simpa using hX
      rw [decide_eq_false hl] at cs2
      subst hn
      clear tl hXz hSl hl hX hST
      go_wp2_with fail
      refine cs1.out.mono ?_
      rintro e w9 ⟨rfl, hb9⟩
      have hw9 := hw8.trans (hb9.mono hw8.size)
      have c9 := cs2.out w9 hb9
      clear y10 y11 y12 y13 y20 y21 y22 y23 cs1
      replace g1 := (hb9.block _ (by omega)).trans g1.out
      replace g2 := (hb9.block _ hlt).trans g2.out
      have y10 : w9.cell? ⟨w.heap.size, 0, none⟩ = some (.int .i64 k1) := by rw [cell_of_row _ _ _ _ _ _ g1]; rfl
      have y11 : w9.cell? ⟨w.heap.size, 1, none⟩ = some (.string n1) := by rw [cell_of_row _ _ _ _ _ _ g1]; rfl
      have y12 : w9.cell? ⟨w.heap.size, 2, none⟩ = some (.string h1) := by rw [cell_of_row _ _ _ _ _ _ g1]; rfl
      have y13 : w9.cell? ⟨w.heap.size, 3, none⟩ = some (.slice A1 m1 c1) := by rw [cell_of_row _ _ _ _ _ _ g1]; rfl
      have y20 : w9.cell? ⟨w.heap.size + 1, 0, none⟩ = some (.int .i64 k2) := by rw [cell_of_row _ _ _ _ _ _ g2]; rfl
      have y21 : w9.cell? ⟨w.heap.size + 1, 1, none⟩ = some (.string n1) := by rw [cell_of_row _ _ _ _ _ _ g2]; rfl
      have y22 : w9.cell? ⟨w.heap.size + 1, 2, none⟩ = some (.string h2) := by rw [cell_of_row _ _ _ _ _ _ g2]; rfl
      have y23 : w9.cell? ⟨w.heap.size + 1, 3, none⟩ = some (.slice A2 m2 c2) := by rw [cell_of_row _ _ _ _ _ _ g2]; rfl
      replace g1 := Lib.hid g1
      replace g2 := Lib.hid g2
      clear hb9
      replace c9 := Lib.hid c9
      go_wp2_with fail
      refine c9.out.mono ?_
      rintro e w10 ⟨rfl, hb10⟩
      go_wp2
      go_ret
      exact ⟨rfl, hw9.trans (hb10.mono hw9.size)⟩
  · have hX : ¬ X = 0 := fun e => hn (hXz.1 e).1
    have hST : ¬ S = T := fun e => hn (hSl.1 e).1
    have tST := tl S T hST
    have tnn := tl n1 n2 hn
    have tX : (X == 0) = false := by simpa using hX
    clear tl hXz hSl hX hST hn
    go_wp2_with fail
    refine cs1.out.mono ?_
    rintro e w9 ⟨rfl, hb9⟩
    have hw9 := hw8.trans (hb9.mono hw8.size)
    clear y10 y11 y12 y13 y20 y21 y22 y23 cs1
    replace g1 := (hb9.block _ (by omega)).trans g1.out
    replace g2 := (hb9.block _ hlt).trans g2.out
    have y10 : w9.cell? ⟨w.heap.size, 0, none⟩ = some (.int .i64 k1) := by rw [cell_of_row _ _ _ _ _ _ g1]; rfl
    have y11 : w9.cell? ⟨w.heap.size, 1, none⟩ = some (.string n1) := by rw [cell_of_row _ _ _ _ _ _ g1]; rfl
    have y12 : w9.cell? ⟨w.heap.size, 2, none⟩ = some (.string h1) := by rw [cell_of_row _ _ _ _ _ _ g1]; rfl
    have y13 : w9.cell? ⟨w.heap.size, 3, none⟩ = some (.slice A1 m1 c1) := by rw [cell_of_row _ _ _ _ _ _ g1]; rfl
    have y20 : w9.cell? ⟨w.heap.size + 1, 0, none⟩ = some (.int .i64 k2) := by rw [cell_of_row _ _ _ _ _ _ g2]; rfl
    have y21 : w9.cell? ⟨w.heap.size + 1, 1, none⟩ = some (.string n2) := by rw [cell_of_row _ _ _ _ _ _ g2]; rfl
    have y22 : w9.cell? ⟨w.heap.size + 1, 2, none⟩ = some (.string h2) := by rw [cell_of_row _ _ _ _ _ _ g2]; rfl
    have y23 : w9.cell? ⟨w.heap.size + 1, 3, none⟩ = some (.slice A2 m2 c2) := by rw [cell_of_row _ _ _ _ _ _ g2]; rfl
    replace g1 := Lib.hid g1
    replace g2 := Lib.hid g2
    go_wp2
    go_ret
    exact ⟨rfl, hw9⟩
end Go.Proofs.YtgjcdhcbniholaaGreat.Rt
