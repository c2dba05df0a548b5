/- The document's Compare; Same of both. -/
import Derived.Test.YtgjcdhcbniholaaGreatRc1
import Derived.Test.YtgjcdhcbniholaaGreatSq
namespace Go.Proofs.YtgjcdhcbniholaaGreat.Rc
open Go.RowKit Go.Proofs.YtgjcdhcbniholaaGreat.La Go.Proofs.YtgjcdhcbniholaaGreat.Sl Go.Proofs.YtgjcdhcbniholaaGreat.Ck
set_option linter.unusedVariables false

theorem order_below (a b : ByteArray) (w : World) :
    Calls Tryz.prog 41 #[.string a, .string b] w fun e w' => e = .returned (.int .i64 (cB a b)) ∧ Below w.heap.size w w' :=
  (order_any a b w).mono fun _ _ h => ⟨h.1, by rw [h.2]; exact Below.refl _ _⟩

set_option maxRecDepth 100000 in
set_option maxHeartbeats 8000000 in
theorem rcompare_any {w : World} (a b : DD) (ha : Rd w w.heap.size 2 a.A (labs a.l) a.l.length) (hb : Rd w w.heap.size 2 b.A (labs b.l) b.l.length) (hl1 : a.l.length ≤ 9223372036854775807) (hl2 : b.l.length ≤ 9223372036854775807) :
    Calls Tryz.prog 17 #[a.v, b.v] w fun e w' => e = .returned (.int .i64 (cmpD a b)) ∧ Below w.heap.size w w' := by
  obtain ⟨k1, n1, h1, A1, c1, l1⟩ := a
  obtain ⟨k2, n2, h2, A2, c2, l2⟩ := b
  unfold DD.v cmpD
  dsimp only at *
  obtain ⟨m1, hm1⟩ : ∃ m1, m1 = l1.length := ⟨_, rfl⟩
  obtain ⟨m2, hm2⟩ : ∃ m2, m2 = l2.length := ⟨_, rfl⟩
  have hm1I : (m1 : Int) ≤ 9223372036854775807 := by omega
  have hm2I : (m2 : Int) ≤ 9223372036854775807 := by omega
  rw [← hm1, ← hm2]
  rw [← hm1] at ha
  rw [← hm2] at hb
  obtain ⟨res, hres⟩ : ∃ res, res = (if cB n1 n2 ≠ 0 then cB n1 n2 else cmpLs l1 l2) := ⟨_, rfl⟩
  rw [← hres]
  obtain ⟨v, hv⟩ : ∃ v, v = cB n1 n2 := ⟨_, rfl⟩
  have co := fun w' => order_below n1 n2 w'
  rw [← hv] at hres co
  replace hres := Lib.hid hres
  replace co := Lib.hid co
  have bel0 : Below w.heap.size w ((w.alloc (.cells #[.int .i64 k1, .string n1, .string h1, .slice A1 m1 c1] 35)).alloc (.cells #[.int .i64 k2, .string n2, .string h2, .slice A2 m2 c2] 35)) := ((Below.refl _ _).alloc (Nat.le_refl _) _).alloc (by simp) _
  replace ha := Lib.hid (ha.below bel0)
  replace hb := Lib.hid (hb.below bel0)
  replace hm1 := Lib.hid hm1
  replace hm2 := Lib.hid hm2
  clear hv hl1 hl2
  go_enter Tryz.func17, Tryz.ntmps17
  go_wp2_with fail
  refine (co.out _).mono ?_
  rintro e w2 ⟨rfl, hb2⟩
  have hsz := hb2.size
  simp only [World.size_alloc] at hsz hb2
  have g1 : w2.heap[w.heap.size]? = some (.cells #[.int .i64 k1, .string n1, .string h1, .slice A1 m1 c1] 35 (0, 0)) :=
    (hb2.block _ (by omega)).trans ((heap_alloc_old _ _ (by simp)).trans (heap_alloc_new _ _))
  have g2 : w2.heap[w.heap.size + 1]? = some (.cells #[.int .i64 k2, .string n2, .string h2, .slice A2 m2 c2] 35 (0, 0)) := by
    have hn := heap_alloc_new (w.alloc (.cells #[.int .i64 k1, .string n1, .string h1, .slice A1 m1 c1] 35)) (.cells #[.int .i64 k2, .string n2, .string h2, .slice A2 m2 c2] 35)
    simp only [World.size_alloc] at hn
    exact (hb2.block _ (by omega)).trans hn
  have bel2 := bel0.trans (hb2.mono (by omega))
  have hra := Lib.hid (ha.out.below (hb2.mono (by omega)))
  have hrb := Lib.hid (hb.out.below (hb2.mono (by omega)))
  have y13 : w2.cell? ⟨w.heap.size, 3, none⟩ = some (.slice A1 m1 c1) := by rw [cell_of_row _ _ _ _ _ _ g1]; rfl
  have y23 : w2.cell? ⟨w.heap.size + 1, 3, none⟩ = some (.slice A2 m2 c2) := by rw [cell_of_row _ _ _ _ _ _ g2]; rfl
  clear bel0 ha hb hb2 g1 g2 co
  by_cases hv0 : v ≠ 0
  · have hr := hres.out
    rw [if_pos hv0] at hr
    subst hr
    have t1 : (res != 0) = true := by simpa using hv0
    clear hv0
    go_wp2
    go_ret
    exact ⟨rfl, bel2⟩
  · have hr := hres.out
    rw [if_neg hv0] at hr
    have t1 : (v != 0) = false := by simpa using hv0
    clear hv0 hres
    replace hr := Lib.hid hr
    go_wp2
    go_loopw [6] (fun u wr => ∃ i : Nat, u = .int .i64 (i : Int) ∧ i ≤ m1 ∧ i ≤ m2 ∧ Hid (cmpLs (l1.drop i) (l2.drop i) = res) ∧ Below (w.heap.size + 2) w2 wr) (fun u _ => m1 + 1 - natOf' u)
    case atStart => exact ⟨0, rfl, Nat.zero_le _, Nat.zero_le _, Lib.hid (by rw [hr.out]; rfl), Below.refl _ _⟩
    case round =>
      obtain ⟨i, rfl, hi1, hi2, hcm, hbr⟩ := hrel
      have hsr := hbr.size
      have y13 := (hbr.cell (p := ⟨w.heap.size, 3, none⟩) (by simp)).trans y13
      have y23 := (hbr.cell (p := ⟨w.heap.size + 1, 3, none⟩) (by simp)).trans y23
      have bel3 := bel2.trans (hbr.mono (by omega))
      have g0 : (0 : Int) ≤ (i : Int) := by omega
      by_cases hlt1 : i < m1
      · have j1 : (i : Int) < (m1 : Int) := by omega
        by_cases hlt2 : i < m2
        · have j2 : (i : Int) < (m2 : Int) := by omega
          have hil1 : i < l1.length := by rw [← hm1.out]; exact hlt1
          have hil2 : i < l2.length := by rw [← hm2.out]; exact hlt2
          obtain ⟨b1, o1, hA1, hb1, p0, p1⟩ := rd_lab hra.out i hil1 hm1.out
          obtain ⟨b2, o2, hA2, hb2, q0, q1⟩ := rd_lab hrb.out i hil2 hm2.out
          subst hA1; subst hA2
          have hcm' := Lib.hid ((cmpLs_drop l1 l2 i hil1 hil2).symm.trans hcm.out)
          unfold cmpLab at hcm'
          obtain ⟨x, hx⟩ : ∃ x, x = l1[i] := ⟨_, rfl⟩
          obtain ⟨y, hy⟩ : ∃ y, y = l2[i] := ⟨_, rfl⟩
          rw [← hx] at p0 p1
          rw [← hy] at q0 q1
          have hcm2 := hcm'.out
          rw [← hx, ← hy] at hcm2
          have z0 := (hbr.cell (p := ⟨b1, o1 + i * 2, none⟩) (by simp; omega)).trans p0
          have z1 := (hbr.cell (p := ⟨b1, o1 + i * 2 + 1, none⟩) (by simp; omega)).trans p1
          have z2 := (hbr.cell (p := ⟨b2, o2 + i * 2, none⟩) (by simp; omega)).trans q0
          have z3 := (hbr.cell (p := ⟨b2, o2 + i * 2 + 1, none⟩) (by simp; omega)).trans q1
          have co1 := fun w' => order_below x.1 y.1 w'
          have co2 := fun w' => order_below x.2 y.2 w'
          obtain ⟨e1, he1⟩ : ∃ e1, e1 = cB x.1 y.1 := ⟨_, rfl⟩
          obtain ⟨e2, he2⟩ : ∃ e2, e2 = cB x.2 y.2 := ⟨_, rfl⟩
          rw [← he1] at co1 hcm2
          rw [← he2] at co2 hcm2
          replace hcm2 := Lib.hid hcm2
          replace co1 := Lib.hid co1
          replace co2 := Lib.hid co2
          have g2 : wrap64 (i : Int) = (i : Int) := by unfold wrap64; omega
          have u1 : b1 < wr.heap.size := by omega
          have u2 : b2 < wr.heap.size := by omega
          have u3 : w.heap.size < wr.heap.size := by omega
          have u4 : w.heap.size + 1 < wr.heap.size := by omega
          clear p0 p1 q0 q1 hx hy hcm' hcm he1 he2 hil1 hil2
          go_wp2
          refine Reg.region_below (by kernel_rfl) (by kernel_rfl) ?_
          intro Sx _ f hf hs
          have r1 := Reg.keepc hf u1 z0
          have r2 := Reg.keepc hf u2 z2
          have r3 := Reg.keepc hf u3 y13
          have r4 := Reg.keepc hf u4 y23
          have cq := fun s => co1.out (f s)
          repeat (go_big_quiet_step ((go_at_call 41; with_reducible exact Reg.met hs (cq _))))
          refine wpQuiet_nil ?_
          intro s
          have hb5 := hf s
          have r1 := r1 s; have r2 := r2 s; have r3 := r3 s; have r4 := r4 s
          have r5 := (Reg.keepc hf u1 z1) s
          have r6 := (Reg.keepc hf u2 z3) s
          obtain ⟨w5, hw5⟩ : ∃ w5, w5 = f s := ⟨_, rfl⟩
          rw [← hw5] at hb5 r1 r2 r3 r4 r5 r6 ⊢
          clear hw5 hs hf cq z0 z1 z2 z3 y13 y23 co1
          have hb5' := hbr.trans (hb5.mono (by omega))
          have bel5 := bel3.trans (hb5.mono (by omega))
          have hs5 := hb5.size
          by_cases he10 : e1 ≠ 0
          · have hr := hcm2.out
            rw [if_pos (show (if e1 ≠ 0 then e1 else e2) ≠ 0 by rw [if_pos he10]; exact he10), if_pos he10] at hr
            subst hr
            have t4 : (e1 != 0) = true := by simpa using he10
            clear he10 hcm2
            go_wp2
            go_ret
            exact ⟨rfl, bel5⟩
          · have hr := hcm2.out
            rw [if_neg he10] at hr
            have t4 : (e1 != 0) = false := by simpa using he10
            clear he10 hcm2
            replace hr := Lib.hid hr
            go_wp2
            refine Reg.region_below (by kernel_rfl) (by kernel_rfl) ?_
            intro Sx _ f hf hs
            have r3 := Reg.keepc hf (by omega) r3
            have r4 := Reg.keepc hf (by omega) r4
            have r5 := Reg.keepc hf (by omega) r5
            have r6 := Reg.keepc hf (by omega) r6
            have cq := fun s => co2.out (f s)
            repeat (go_big_quiet_step ((go_at_call 41; with_reducible exact Reg.met hs (cq _))))
            refine wpQuiet_nil ?_
            intro s
            have hb6 := hf s
            obtain ⟨w6, hw6⟩ : ∃ w6, w6 = f s := ⟨_, rfl⟩
            rw [← hw6] at hb6 ⊢
            clear hw6 hs hf cq r3 r4 r5 r6 co2 r1 r2
            have hb6' := hb5'.trans (hb6.mono (by omega))
            have bel6 := bel5.trans (hb6.mono (by omega))
            by_cases he20 : e2 ≠ 0
            · have hr := hr.out
              rw [if_pos he20] at hr
              subst hr
              have t5 : (e2 != 0) = true := by simpa using he20
              clear he20
              go_wp2
              go_ret
              exact ⟨rfl, bel6⟩
            · have hr := hr.out
              rw [if_neg he20] at hr
              have t5 : (e2 != 0) = false := by simpa using he20
              clear he20
              replace hr := Lib.hid hr
              go_wp2
              exact ⟨⟨i + 1, by simp, hlt1, hlt2, hr, hb6'⟩, by simp [natOf']; omega⟩
        · have j2 : ¬ (i : Int) < (m2 : Int) := by omega
          have hr0 : res = 1 := by
            rw [← hcm.out]
            exact cmpLs_more l1 l2 i (by rw [← hm1.out]; exact hlt1) (by rw [← hm2.out]; omega)
          have j3 : ¬ (m1 : Int) < (m2 : Int) := by omega
          have j4 : (m2 : Int) < (m1 : Int) := by omega
          subst hr0
          clear hcm
          go_wp2
          go_ret
          exact ⟨rfl, bel3⟩
      · have j1 : ¬ (i : Int) < (m1 : Int) := by omega
        have hce := cmpLs_end l1 l2 i (by rw [← hm1.out]; omega) (by rw [← hm2.out]; exact hi2)
        rw [hcm.out, ← hm1.out, ← hm2.out] at hce
        by_cases j3 : m1 < m2
        · rw [if_pos j3] at hce
          have j4 : (m1 : Int) < (m2 : Int) := by omega
          subst hce
          clear hcm j3
          go_wp2
          go_ret
          exact ⟨rfl, bel3⟩
        · rw [if_neg j3] at hce
          have j4 : ¬ (m1 : Int) < (m2 : Int) := by omega
          have j5 : ¬ (m2 : Int) < (m1 : Int) := by omega
          subst hce
          clear hcm j3
          go_wp2
          go_ret
          exact ⟨rfl, bel3⟩

/-- The same in all? -/
def sameD (a b : DD) : Bool := decide (a.kind = b.kind ∧ a.name = b.name ∧ a.help = b.help ∧ a.l = b.l)

set_option maxRecDepth 100000 in
set_option maxHeartbeats 8000000 in
theorem lsame_any {w : World} (a b : DD) (ha : Rd w w.heap.size 2 a.A (labs a.l) a.l.length) (hb : Rd w w.heap.size 2 b.A (labs b.l) b.l.length) (hl1 : a.l.length ≤ 140737488355328) (hl2 : b.l.length ≤ 140737488355328) :
    Calls Tryz.prog 18 #[a.v, b.v] w fun e w' => e = .returned (.bool (sameD a b)) ∧ Below w.heap.size w w' := by
  obtain ⟨k1, n1, h1, A1, c1, l1⟩ := a
  obtain ⟨k2, n2, h2, A2, c2, l2⟩ := b
  unfold DD.v sameD
  dsimp only at *
  have bel0 : Below w.heap.size w ((w.alloc (.cells #[.int .i64 k1, .string n1, .string h1, .slice A1 l1.length c1] 35)).alloc (.cells #[.int .i64 k2, .string n2, .string h2, .slice A2 l2.length c2] 35)) := ((Below.refl _ _).alloc (Nat.le_refl _) _).alloc (by simp) _
  have ce := Sq.equal_any A1 A2 c1 c2 l1 l2 _ ((ha.below bel0).mono bel0.size) ((hb.below bel0).mono bel0.size) hl1 hl2
  obtain ⟨m1, hm1⟩ : ∃ m1, m1 = l1.length := ⟨_, rfl⟩
  obtain ⟨m2, hm2⟩ : ∃ m2, m2 = l2.length := ⟨_, rfl⟩
  rw [← hm1] at ce bel0 ⊢
  rw [← hm2] at ce bel0 ⊢
  replace ce := Lib.hid ce
  clear ha hb hl1 hl2 hm1 hm2
  by_cases e1 : k1 = k2
  · by_cases e2 : n1 = n2
    · by_cases e3 : h1 = h2
      · rw [show decide (k1 = k2 ∧ n1 = n2 ∧ h1 = h2 ∧ l1 = l2) = decide (l1 = l2) by simp [e1, e2, e3]]
        subst e1; subst e2; subst e3
        go_enter Tryz.func18, Tryz.ntmps18
        go_wp2_with fail
        refine ce.out.mono ?_
        rintro e w2 ⟨rfl, hb2⟩
        go_wp2
        go_ret
        exact ⟨rfl, bel0.trans (hb2.mono bel0.size)⟩
      · rw [show decide (k1 = k2 ∧ n1 = n2 ∧ h1 = h2 ∧ l1 = l2) = false by simp [e3]]
        have t3 := tl_ne e3
        subst e1; subst e2
        clear e3
        go_enter Tryz.func18, Tryz.ntmps18
        go_wp2
        go_ret
        exact ⟨rfl, bel0⟩
    · rw [show decide (k1 = k2 ∧ n1 = n2 ∧ h1 = h2 ∧ l1 = l2) = false by simp [e2]]
      have t3 := tl_ne e2
      subst e1
      clear e2
      go_enter Tryz.func18, Tryz.ntmps18
      go_wp2
      go_ret
      exact ⟨rfl, bel0⟩
  · rw [show decide (k1 = k2 ∧ n1 = n2 ∧ h1 = h2 ∧ l1 = l2) = false by simp [e1]]
    have t3 : (k1 == k2) = false := by simpa using e1
    clear e1
    go_enter Tryz.func18, Tryz.ntmps18
    go_wp2
    go_ret
    exact ⟨rfl, bel0⟩

set_option maxRecDepth 100000 in
set_option maxHeartbeats 8000000 in
theorem rsame_any {w : World} (a b : DD) (ha : Rd w w.heap.size 2 a.A (labs a.l) a.l.length) (hb : Rd w w.heap.size 2 b.A (labs b.l) b.l.length) (hl1 : a.l.length ≤ 140737488355328) (hl2 : b.l.length ≤ 140737488355328) :
    Calls Tryz.prog 19 #[a.v, b.v] w fun e w' => e = .returned (.bool (sameD a b)) ∧ Below w.heap.size w w' := by
  obtain ⟨k1, n1, h1, A1, c1, l1⟩ := a
  obtain ⟨k2, n2, h2, A2, c2, l2⟩ := b
  unfold DD.v sameD
  dsimp only at *
  have bel0 : Below w.heap.size w ((w.alloc (.cells #[.int .i64 k1, .string n1, .string h1, .slice A1 l1.length c1] 35)).alloc (.cells #[.int .i64 k2, .string n2, .string h2, .slice A2 l2.length c2] 35)) := ((Below.refl _ _).alloc (Nat.le_refl _) _).alloc (by simp) _
  have ce := Sm.same_any A1 A2 c1 c2 l1 l2 _ ((ha.below bel0).mono bel0.size) ((hb.below bel0).mono bel0.size) hl1 hl2
  obtain ⟨m1, hm1⟩ : ∃ m1, m1 = l1.length := ⟨_, rfl⟩
  obtain ⟨m2, hm2⟩ : ∃ m2, m2 = l2.length := ⟨_, rfl⟩
  rw [← hm1] at ce bel0 ⊢
  rw [← hm2] at ce bel0 ⊢
  replace ce := Lib.hid ce
  clear ha hb hl1 hl2 hm1 hm2
  by_cases e1 : k1 = k2
  · by_cases e2 : n1 = n2
    · by_cases e3 : h1 = h2
      · rw [show decide (k1 = k2 ∧ n1 = n2 ∧ h1 = h2 ∧ l1 = l2) = decide (l1 = l2) by simp [e1, e2, e3]]
        subst e1; subst e2; subst e3
        go_enter Tryz.func19, Tryz.ntmps19
        go_wp2_with fail
        refine ce.out.mono ?_
        rintro e w2 ⟨rfl, hb2⟩
        go_wp2
        go_ret
        exact ⟨rfl, bel0.trans (hb2.mono bel0.size)⟩
      · rw [show decide (k1 = k2 ∧ n1 = n2 ∧ h1 = h2 ∧ l1 = l2) = false by simp [e3]]
        have t3 := tl_ne e3
        subst e1; subst e2
        clear e3
        go_enter Tryz.func19, Tryz.ntmps19
        go_wp2
        go_ret
        exact ⟨rfl, bel0⟩
    · rw [show decide (k1 = k2 ∧ n1 = n2 ∧ h1 = h2 ∧ l1 = l2) = false by simp [e2]]
      have t3 := tl_ne e2
      subst e1
      clear e2
      go_enter Tryz.func19, Tryz.ntmps19
      go_wp2
      go_ret
      exact ⟨rfl, bel0⟩
  · rw [show decide (k1 = k2 ∧ n1 = n2 ∧ h1 = h2 ∧ l1 = l2) = false by simp [e1]]
    have t3 : (k1 == k2) = false := by simpa using e1
    clear e1
    go_enter Tryz.func19, Tryz.ntmps19
    go_wp2
    go_ret
    exact ⟨rfl, bel0⟩
end Go.Proofs.YtgjcdhcbniholaaGreat.Rc
