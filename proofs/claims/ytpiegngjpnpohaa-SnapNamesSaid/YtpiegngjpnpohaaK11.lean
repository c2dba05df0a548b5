/- Lemmas for the laws of this seat, laid together of Sn5, Sn7. -/
import Derived.Test.YtpiegngjpnpohaaK10
import Derived.Laws.StructEq

namespace Go.Proofs.Ytpiegngjpnpohaa.Sn
open Go.RowKit Go.Proofs.Ytpiegngjpnpohaa.La Go.Proofs.Ytpiegngjpnpohaa.Sl Go.Proofs.Ytpiegngjpnpohaa.Ck Go.Proofs.Ytpiegngjpnpohaa.Rc Go.Proofs.Ytpiegngjpnpohaa.Rk Go.Proofs.Ytpiegngjpnpohaa.Wi Go.Proofs.Ytpiegngjpnpohaa.Fb
set_option linter.unusedVariables false
structure V11 (w : World) (g : Nat) (v : Vv) : Prop where
  z0 : w.cell? ⟨g, 0, none⟩ = some (.int .i64 v.d.kind)
  z1 : w.cell? ⟨g, 1, none⟩ = some (.string v.d.name)
  z2 : w.cell? ⟨g, 2, none⟩ = some (.string v.d.help)
  z3 : w.cell? ⟨g, 3, none⟩ = some (.slice v.d.A v.d.l.length v.d.c)
  z4 : w.cell? ⟨g, 4, none⟩ = some (.int .i64 (hiI v.t))
  z5 : w.cell? ⟨g, 5, none⟩ = some (.int .u64 (loI v.t))
  z6 : w.cell? ⟨g, 6, none⟩ = some (.slice v.CA v.cs.length v.cc)
  z7 : w.cell? ⟨g, 7, none⟩ = some (.int .u64 v.n)
  z8 : w.cell? ⟨g, 8, none⟩ = some (.float .f64 v.sm)
  z9 : w.cell? ⟨g, 9, none⟩ = some (.float .f64 v.mn)
  z10 : w.cell? ⟨g, 10, none⟩ = some (.float .f64 v.mx)
theorem V11.below {w w' : World} {g B : Nat} {v : Vv} (h : V11 w g v) (k : Below B w w') (hg : g < B) : V11 w' g v :=
  ⟨kc k hg h.z0, kc k hg h.z1, kc k hg h.z2, kc k hg h.z3, kc k hg h.z4, kc k hg h.z5, kc k hg h.z6, kc k hg h.z7, kc k hg h.z8, kc k hg h.z9, kc k hg h.z10⟩
theorem V11.new (w : World) (T : TypeId) (v : Vv) {w1 : World} (h : w1 = w.alloc (.cells v.row.toArray T)) : Below w.heap.size w w1 ∧ w.heap.size < w1.heap.size ∧ V11 w1 w.heap.size v := by
  subst h
  exact ⟨(Below.refl _ w).alloc (Nat.le_refl _) _, by simp, ⟨by rw [Mg.cell_new]; rfl, by rw [Mg.cell_new]; rfl, by rw [Mg.cell_new]; rfl, by rw [Mg.cell_new]; rfl, by rw [Mg.cell_new]; rfl, by rw [Mg.cell_new]; rfl, by rw [Mg.cell_new]; rfl, by rw [Mg.cell_new]; rfl, by rw [Mg.cell_new]; rfl, by rw [Mg.cell_new]; rfl, by rw [Mg.cell_new]; rfl⟩⟩
theorem zeros3 (a b c : Nat) (ha : okF a) (hb : okF b) (hc : okF c) (W : World) (T : TypeId) :
    Calls Try.prog 29 #[.slice (some ⟨W.heap.size, 0, none⟩) 3 3] (W.alloc (.cells #[.float .f64 a, .float .f64 b, .float .f64 c] T)) fun e w' => e = .returned (.bool (zeroF a && zeroF b && zeroF c)) ∧ Below W.heap.size W w' := by
  have hr := Rd.new W ([a, b, c].map flF) T 1 3 rfl
  have := zeros_any [a, b, c] (some ⟨W.heap.size, 0, none⟩) 3 (W.alloc (.cells #[.float .f64 a, .float .f64 b, .float .f64 c] T)) (by simpa [flF] using hr) (by simp [ha, hb, hc]) (by simp)
  refine this.mono ?_
  rintro e w' ⟨rfl, hb⟩
  exact ⟨by simp [Bool.and_assoc], ((Below.refl _ W).alloc (Nat.le_refl _) _).trans (hb.mono (by simp))⟩
theorem finite3 (a b c : Nat) (ha : okF a) (hb : okF b) (hc : okF c) (W : World) (T : TypeId) :
    Calls Try.prog 32 #[.slice (some ⟨W.heap.size, 0, none⟩) 3 3] (W.alloc (.cells #[.float .f64 a, .float .f64 b, .float .f64 c] T)) fun e w' => e = .returned (.bool (finF a && finF b && finF c)) ∧ Below W.heap.size W w' := by
  have hr := Rd.new W ([a, b, c].map flF) T 1 3 rfl
  have := finite_l [a, b, c] (some ⟨W.heap.size, 0, none⟩) 3 (W.alloc (.cells #[.float .f64 a, .float .f64 b, .float .f64 c] T)) (by simpa [flF] using hr) (by simp [ha, hb, hc]) (by simp)
  refine this.mono ?_
  rintro e w' ⟨rfl, hb⟩
  exact ⟨by simp [Bool.and_assoc], ((Below.refl _ W).alloc (Nat.le_refl _) _).trans (hb.mono (by simp))⟩
theorem finite1 (a : Nat) (ha : okF a) (W : World) (T : TypeId) :
    Calls Try.prog 32 #[.slice (some ⟨W.heap.size, 0, none⟩) 1 1] (W.alloc (.cells #[.float .f64 a] T)) fun e w' => e = .returned (.bool (finF a)) ∧ Below W.heap.size W w' := by
  have hr := Rd.new W ([a].map flF) T 1 1 rfl
  have := finite_l [a] (some ⟨W.heap.size, 0, none⟩) 1 (W.alloc (.cells #[.float .f64 a] T)) (by simpa [flF] using hr) (by simp [ha]) (by simp)
  refine this.mono ?_
  rintro e w' ⟨rfl, hb⟩
  exact ⟨by simp, ((Below.refl _ W).alloc (Nat.le_refl _) _).trans (hb.mono (by simp))⟩
def zer3 (v : Vv) : Bool := zeroF v.sm && zeroF v.mn && zeroF v.mx
def fin3 (v : Vv) : Bool := finF v.sm && finF v.mn && finF v.mx
def holdB (p : Int) (v : Vv) : Bool :=
  if v.d.kind = 1 then decide (v.cs.length = 0) && decide (v.n = 0) && zer3 v && decide (0 ≤ v.t)
  else if v.d.kind = 2 then zer3 v && histB p v
  else if v.t ≠ 0 ∨ 0 < v.cs.length ∨ 9223372036854775807 < v.n then false
  else if v.n = 0 then zer3 v else fin3 v && decide (cmpF v.mn v.mx ≤ 0)
set_option maxRecDepth 100000 in
set_option maxHeartbeats 4000000 in
theorem holds1_any (p : Int) (v : Vv) (w : World) (h : VAt v w w.heap.size) (hk : v.d.kind = 1) :
    Calls Try.prog 11 #[.int .i64 p, v.v] w fun e w' => e = .returned (.bool (holdB p v)) ∧ Below w.heap.size w w' := by
  have cz := fun W => zeros3 v.sm v.mn v.mx h.sm h.mn h.mx W
  have cs := fun W => sign_any h.tot W
  have hh : holdB p v = (decide (v.cs.length = 0) && decide (v.n = 0) && zer3 v && decide (0 ≤ v.t)) := by unfold holdB; rw [if_pos hk]
  rw [hh]
  have hz : (zeroF v.sm && zeroF v.mn && zeroF v.mx) = zer3 v := rfl
  rw [hz] at cz
  have ks : (0 ≤ cmpI v.t 0) = (0 ≤ v.t) := by unfold cmpI; apply propext; split <;> (try split) <;> omega
  have hnew := fun (w1 : World) (e : w1 = _) => V11.new w 41 v (w1 := w1) e
  have hd4 : decide (0 ≤ cmpI v.t 0) = decide (0 ≤ v.t) := by rw [decide_eq_decide, ks]
  obtain ⟨z, hz⟩ : ∃ z, z = zer3 v := ⟨_, rfl⟩
  obtain ⟨q, hq⟩ : ∃ q, q = decide (0 ≤ v.t) := ⟨_, rfl⟩
  rw [← hz] at cz ⊢
  rw [← hq] at hd4 ⊢
  obtain ⟨r, hr⟩ : ∃ r, r = (decide (v.cs.length = 0) && decide (v.n = 0) && z && q) := ⟨_, rfl⟩
  rw [← hr]
  have hcase : (v.cs.length ≠ 0 ∧ r = false) ∨ (v.cs.length = 0 ∧ v.n ≠ 0 ∧ r = false) ∨ (v.cs.length = 0 ∧ v.n = 0 ∧ z = false ∧ r = false) ∨ (v.cs.length = 0 ∧ v.n = 0 ∧ z = true ∧ r = q) := by
    by_cases h1 : v.cs.length = 0
    · by_cases h2 : v.n = 0
      · cases z
        · right; right; left; exact ⟨h1, h2, rfl, by rw [hr]; simp⟩
        · right; right; right; exact ⟨h1, h2, rfl, by rw [hr]; simp [h1, h2]⟩
      · right; left; exact ⟨h1, h2, by rw [hr]; simp [h2]⟩
    · left; exact ⟨h1, by rw [hr]; simp [h1]⟩
  unfold I128 at cs
  unfold Vv.v
  obtain ⟨⟨k0, n0, h0, A0, c0, l0⟩, tt, CA, cc, cs0, n, sm, mn, mx⟩ := v
  dsimp only at *
  subst hk
  unfold Vv.row at hnew
  dsimp only at hnew
  generalize cmpI tt 0 = g4 at *
  clear hh ks hz hq h hr
  obtain ⟨ln, hln⟩ : ∃ ln, ln = l0.length := ⟨_, rfl⟩
  obtain ⟨cn, hcn⟩ : ∃ cn, cn = cs0.length := ⟨_, rfl⟩
  rw [← hln, ← hcn] at hnew ⊢
  rw [← hcn] at hcase
  replace cz := Lib.hid cz
  replace cs := Lib.hid cs
  replace hnew := Lib.hid hnew
  replace hln := Lib.hid hln
  replace hcn := Lib.hid hcn
  replace hcase := Lib.hid hcase
  go_enter Try.func11, Try.ntmps11
  go_upto_region 1 with fail
  obtain ⟨w1, hw1⟩ : ∃ w1, w1 = w.alloc (.cells #[.int .i64 1, .string n0, .string h0, .slice A0 ln c0, .int .i64 (hiI tt), .int .u64 (loI tt), .slice CA cn cc, .int .u64 n, .float .f64 sm, .float .f64 mn, .float .f64 mx] 41) := ⟨_, rfl⟩
  rw [← hw1]
  obtain ⟨hb1, hlt, hv⟩ := hnew.out w1 hw1
  clear hw1 hnew
  obtain ⟨z0, z1, z2, z3, z4, z5, z6, z7, z8, z9, z10⟩ := id hv
  dsimp only at z0 z1 z2 z3 z4 z5 z6 z7 z8 z9 z10
  rw [← hcn.out] at z6
  rcases hcase.out with ⟨h1, rfl⟩ | ⟨h1, h2, rfl⟩ | ⟨h1, h2, rfl, rfl⟩ | ⟨h1, h2, rfl, rfl⟩
  · have h1I : ((cn : Int) == 0) = false := by simp [h1]
    clear hcase h1
    go_wp2
    go_ret
    exact ⟨rfl, hb1⟩
  · have h1I : ((cn : Int) == 0) = true := by simp [h1]
    have h2I : (n == 0) = false := by simp [h2]
    clear hcase h1 h2
    go_wp2
    go_ret
    exact ⟨rfl, hb1⟩
  · have h1I : ((cn : Int) == 0) = true := by simp [h1]
    have h2I : (n == 0) = true := by simp [h2]
    clear hcase h1 h2
    go_wp2_with (go_at_call 29; refine (cz.out _ _).mono ?_; rintro e w2 ⟨rfl, hb2⟩)
    go_ret
    exact ⟨rfl, hb1.trans (hb2.mono hb1.size)⟩
  · have h1I : ((cn : Int) == 0) = true := by simp [h1]
    have h2I : (n == 0) = true := by simp [h2]
    clear hcase h1 h2
    go_wp2_with fail
    refine (cz.out _ _).mono ?_
    rintro e w2 ⟨rfl, hb2⟩
    have x4 := kc hb2 hlt z4
    have x5 := kc hb2 hlt z5
    go_wp2_with (go_at_call 30; refine (cs.out _).mono ?_; rintro e w3 ⟨rfl, hb3⟩)
    go_ret
    exact ⟨rfl, hb1.trans ((hb2.trans (hb3.mono hb2.size)).mono hb1.size)⟩
set_option maxRecDepth 100000 in
set_option maxHeartbeats 4000000 in
theorem holds2_any (p : Int) (v : Vv) (w : World) (h : VAt v w w.heap.size) (hk : v.d.kind = 2) :
    Calls Try.prog 11 #[.int .i64 p, v.v] w fun e w' => e = .returned (.bool (holdB p v)) ∧ Below w.heap.size w w' := by
  have cz := fun W => zeros3 v.sm v.mn v.mx h.sm h.mn h.mx W
  have ch := fun W (k : Below w.heap.size w W) => histogram_any p v W ((h.below k).mono k.size)
  have hh : holdB p v = (zer3 v && histB p v) := by unfold holdB; rw [if_neg (by omega), if_pos hk]
  rw [hh]
  have hz : (zeroF v.sm && zeroF v.mn && zeroF v.mx) = zer3 v := rfl
  rw [hz] at cz
  have hnew := fun (w1 : World) (e : w1 = _) => V11.new w 41 v (w1 := w1) e
  obtain ⟨z, hz⟩ : ∃ z, z = zer3 v := ⟨_, rfl⟩
  obtain ⟨q, hq⟩ : ∃ q, q = histB p v := ⟨_, rfl⟩
  rw [← hz] at cz ⊢
  rw [← hq] at ch ⊢
  obtain ⟨r, hr⟩ : ∃ r, r = (z && q) := ⟨_, rfl⟩
  rw [← hr]
  have hcase : (z = false ∧ r = false) ∨ (z = true ∧ r = q) := by
    rw [hr]; cases z <;> simp
  unfold Vv.v at ch ⊢
  obtain ⟨⟨k0, n0, h0, A0, c0, l0⟩, tt, CA, cc, cs0, n, sm, mn, mx⟩ := v
  dsimp only at *
  subst hk
  unfold Vv.row at hnew
  dsimp only at hnew
  clear hh hz hq h hr
  obtain ⟨ln, hln⟩ : ∃ ln, ln = l0.length := ⟨_, rfl⟩
  obtain ⟨cn, hcn⟩ : ∃ cn, cn = cs0.length := ⟨_, rfl⟩
  rw [← hln, ← hcn] at hnew ch ⊢
  replace cz := Lib.hid cz
  replace ch := Lib.hid ch
  replace hnew := Lib.hid hnew
  replace hln := Lib.hid hln
  replace hcn := Lib.hid hcn
  replace hcase := Lib.hid hcase
  go_enter Try.func11, Try.ntmps11
  go_upto_region 1 with fail
  obtain ⟨w1, hw1⟩ : ∃ w1, w1 = w.alloc (.cells #[.int .i64 2, .string n0, .string h0, .slice A0 ln c0, .int .i64 (hiI tt), .int .u64 (loI tt), .slice CA cn cc, .int .u64 n, .float .f64 sm, .float .f64 mn, .float .f64 mx] 41) := ⟨_, rfl⟩
  rw [← hw1]
  obtain ⟨hb1, hlt, hv⟩ := hnew.out w1 hw1
  clear hw1 hnew
  obtain ⟨z0, z1, z2, z3, z4, z5, z6, z7, z8, z9, z10⟩ := id hv
  dsimp only at z0 z1 z2 z3 z4 z5 z6 z7 z8 z9 z10
  rcases hcase.out with ⟨rfl, rfl⟩ | ⟨rfl, rfl⟩
  · go_wp2_with (go_at_call 29; refine (cz.out _ _).mono ?_; rintro e w2 ⟨rfl, hb2⟩)
    go_ret
    exact ⟨rfl, hb1.trans (hb2.mono hb1.size)⟩
  · go_wp2_with fail
    refine (cz.out _ _).mono ?_
    rintro e w2 ⟨rfl, hb2⟩
    clear z0 z1 z2 z3 z4 z5 z6 z7 z8 z9 z10
    have hbw := hb1.trans (hb2.mono hb1.size)
    obtain ⟨z0, z1, z2, z3, z4, z5, z6, z7, z8, z9, z10⟩ := hv.below hb2 hlt
    dsimp only at z0 z1 z2 z3 z4 z5 z6 z7 z8 z9 z10
    rw [← hcn.out] at z6
    rw [← hln.out] at z3
    go_wp2_with (go_at_call 31; refine (ch.out _ hbw).mono ?_; rintro e w3 ⟨rfl, hb3⟩)
    go_ret
    exact ⟨rfl, hbw.trans (hb3.mono hbw.size)⟩
theorem neI_fact (a b c d : Int) (w : World) : (binOp .neq 37 (.agg #[.int .i64 a, .int .u64 b]) (.agg #[.int .i64 c, .int .u64 d])).run Try.prog w = .ok (.bool (!(a == c && b == d))) w := by
  have u3 := Try.underlying2
  have u39 := Try.underlying27
  have a3 := Try.isAgg2
  have a39 := Try.isAgg27
  have hS : Try.prog.underlying 37 = some (.struct (Try.prog.fieldsOf 37)) := by kernel_rfl
  have hp : Try.prog.stoodInHeld 37 = false := by kernel_rfl
  rw [run_neq_struct, run_equalIn_agg (d := 9999) (ht := hS) (hp := hp)]
  simp only [Program.fieldsOf, Try.underlying37]
  go_simp
  by_cases h1 : a = c <;> by_cases h2 : b = d <;> simp [h1, h2]
theorem eqI_fact (a b c d : Int) (w : World) : (binOp .eql 37 (.agg #[.int .i64 a, .int .u64 b]) (.agg #[.int .i64 c, .int .u64 d])).run Try.prog w = .ok (.bool (a == c && b == d)) w := by
  have u3 := Try.underlying2
  have u39 := Try.underlying27
  have a3 := Try.isAgg2
  have a39 := Try.isAgg27
  have hS : Try.prog.underlying 37 = some (.struct (Try.prog.fieldsOf 37)) := by kernel_rfl
  have hp : Try.prog.stoodInHeld 37 = false := by kernel_rfl
  rw [run_eql_struct, run_equalIn_agg (d := 9999) (ht := hS) (hp := hp)]
  simp only [Program.fieldsOf, Try.underlying37]
  go_simp
  by_cases h1 : a = c <;> by_cases h2 : b = d <;> simp [h1, h2]
theorem I128_inj {a b : Int} (ha : In a) (hb : In b) : (hiI a == hiI b && loI a == loI b) = decide (a = b) := by
  unfold In at ha hb
  rw [Bool.eq_iff_iff]
  simp only [Bool.and_eq_true, beq_iff_eq, decide_eq_true_eq]
  constructor
  · rintro ⟨h1, h2⟩
    unfold hiI at h1
    unfold loI at h2
    omega
  · rintro rfl; exact ⟨rfl, rfl⟩
set_option maxRecDepth 100000 in
set_option maxHeartbeats 4000000 in
theorem holds3_any (p : Int) (v : Vv) (w : World) (h : VAt v w w.heap.size) (hk1 : v.d.kind ≠ 1) (hk2 : v.d.kind ≠ 2) :
    Calls Try.prog 11 #[.int .i64 p, v.v] w fun e w' => e = .returned (.bool (holdB p v)) ∧ Below w.heap.size w w' := by
  have cz := fun W => zeros3 v.sm v.mn v.mx h.sm h.mn h.mx W
  have cf := fun W => finite3 v.sm v.mn v.mx h.sm h.mn h.mx W
  have cc1 := real_compare v.mn v.mx h.mn h.mx
  have hz : (zeroF v.sm && zeroF v.mn && zeroF v.mx) = zer3 v := rfl
  have hf : (finF v.sm && finF v.mn && finF v.mx) = fin3 v := rfl
  have hzf : zer3 v = true → fin3 v = true := by
    intro g
    unfold zer3 zeroF at g
    simp only [Bool.and_eq_true, decide_eq_true_eq] at g
    unfold fin3
    rw [g.1.1, g.1.2, g.2]; decide
  rw [hz] at cz
  rw [hf] at cf
  have hni := I128_inj (a := v.t) (b := 0) h.tot (by unfold In; omega)
  rw [show hiI 0 = 0 from by decide, show loI 0 = 0 from by decide] at hni
  have hne := neI_fact (hiI v.t) (loI v.t) 0 0
  rw [hni] at hne
  have hnew := fun (w1 : World) (e : w1 = _) => V11.new w 41 v (w1 := w1) e
  obtain ⟨r, hr⟩ : ∃ r, r = holdB p v := ⟨_, rfl⟩
  rw [← hr]
  have hn := h.n
  have hcase : (v.t ≠ 0 ∧ r = false) ∨ (v.t = 0 ∧ 0 < v.cs.length ∧ r = false) ∨ (v.t = 0 ∧ v.cs.length = 0 ∧ 9223372036854775807 < v.n ∧ r = false) ∨ (v.t = 0 ∧ v.cs.length = 0 ∧ v.n ≤ 9223372036854775807 ∧ fin3 v = false ∧ r = false) ∨
      (v.t = 0 ∧ v.cs.length = 0 ∧ v.n = 0 ∧ fin3 v = true ∧ r = zer3 v) ∨ (v.t = 0 ∧ v.cs.length = 0 ∧ 0 < v.n ∧ v.n ≤ 9223372036854775807 ∧ fin3 v = true ∧ r = decide (cmpF v.mn v.mx ≤ 0)) := by
    rw [hr]
    unfold holdB
    rw [if_neg hk1, if_neg hk2]
    by_cases h1 : v.t = 0
    · by_cases h2 : v.cs.length = 0
      · by_cases h3 : 9223372036854775807 < v.n
        · right; right; left; exact ⟨h1, h2, h3, by rw [if_pos (.inr (.inr h3))]⟩
        · rw [if_neg (by omega)]
          right; right; right
          cases h4 : fin3 v
          · left
            refine ⟨h1, h2, by omega, rfl, ?_⟩
            by_cases h5 : v.n = 0
            · rw [if_pos h5]
              cases h6 : zer3 v
              · rfl
              · rw [hzf h6] at h4; cases h4
            · rw [if_neg h5]; rfl
          · right
            by_cases h5 : v.n = 0
            · left; exact ⟨h1, h2, h5, rfl, by rw [if_pos h5]⟩
            · right; exact ⟨h1, h2, by omega, by omega, rfl, by rw [if_neg h5]; rfl⟩
      · right; left; exact ⟨h1, by omega, by rw [if_pos (.inr (.inl (by omega)))]⟩
    · left; exact ⟨h1, by rw [if_pos (.inl h1)]⟩
  obtain ⟨z, hz'⟩ : ∃ z, z = zer3 v := ⟨_, rfl⟩
  obtain ⟨f, hf'⟩ : ∃ f, f = fin3 v := ⟨_, rfl⟩
  rw [← hz'] at cz hcase
  rw [← hf'] at cf hcase
  have hk1' : (v.d.kind == 1) = false := by simpa using hk1
  have hk2' : (v.d.kind == 2) = false := by simpa using hk2
  unfold Vv.v
  obtain ⟨⟨k0, n0, h0, A0, c0, l0⟩, tt, CA, cc, cs0, n, sm, mn, mx⟩ := v
  dsimp only at *
  unfold Vv.row at hnew
  dsimp only at hnew
  generalize cmpF mn mx = g4 at *
  clear hz hf hzf hz' hf' h hr hk1 hk2 hni
  obtain ⟨ln, hln⟩ : ∃ ln, ln = l0.length := ⟨_, rfl⟩
  obtain ⟨cn, hcn⟩ : ∃ cn, cn = cs0.length := ⟨_, rfl⟩
  rw [← hln, ← hcn] at hnew ⊢
  rw [← hcn] at hcase
  replace cz := Lib.hid cz
  replace cf := Lib.hid cf
  replace cc1 := Lib.hid cc1
  replace hnew := Lib.hid hnew
  replace hln := Lib.hid hln
  replace hcn := Lib.hid hcn
  have hgd : ∀ w x y, (eqGuard .neq 37 x y (.agg #[.int .i64 (hiI tt), .int .u64 (loI tt)]) (.agg #[.int .i64 0, .int .u64 0])).run Try.prog w = .ok () w := fun w x y => run_eqGuard_agg (w := w) _ _ x y _ _ (by kernel_rfl)
  have hcI : (v : Nat) → v = 0 → ((v : Int) = 0) := fun v e => by omega
  have hcaseI : (tt ≠ 0 ∧ r = false) ∨ (tt = 0 ∧ (0 : Int) < (cn : Int) ∧ r = false) ∨ (tt = 0 ∧ cn = 0 ∧ (9223372036854775807 : Int) < n ∧ r = false) ∨ (tt = 0 ∧ cn = 0 ∧ ¬ (9223372036854775807 : Int) < n ∧ f = false ∧ r = false) ∨
      (tt = 0 ∧ cn = 0 ∧ n = 0 ∧ f = true ∧ r = z) ∨ (tt = 0 ∧ cn = 0 ∧ ¬ (9223372036854775807 : Int) < n ∧ (n == 0) = false ∧ f = true ∧ r = decide (g4 ≤ 0)) := by
    simp only [beq_eq_false_iff_ne, ne_eq]
    rcases hcase with h | h | h | h | h | h
    · exact .inl h
    · exact .inr (.inl ⟨h.1, by omega, h.2.2⟩)
    · exact .inr (.inr (.inl h))
    · exact .inr (.inr (.inr (.inl ⟨h.1, h.2.1, by omega, h.2.2.2⟩)))
    · exact .inr (.inr (.inr (.inr (.inl h))))
    · exact .inr (.inr (.inr (.inr (.inr ⟨h.1, h.2.1, by omega, by omega, h.2.2.2.2⟩))))
  clear hcase hcI hn
  replace hcaseI := Lib.hid hcaseI
  go_enter Try.func11, Try.ntmps11
  go_upto_region 1 with fail
  obtain ⟨w1, hw1⟩ : ∃ w1, w1 = w.alloc (.cells #[.int .i64 k0, .string n0, .string h0, .slice A0 ln c0, .int .i64 (hiI tt), .int .u64 (loI tt), .slice CA cn cc, .int .u64 n, .float .f64 sm, .float .f64 mn, .float .f64 mx] 41) := ⟨_, rfl⟩
  rw [← hw1]
  obtain ⟨hb1, hlt, hv⟩ := hnew.out w1 hw1
  clear hw1 hnew
  obtain ⟨z0, z1, z2, z3, z4, z5, z6, z7, z8, z9, z10⟩ := id hv
  dsimp only at z0 z1 z2 z3 z4 z5 z6 z7 z8 z9 z10
  rw [← hcn.out] at z6
  rcases hcaseI.out with ⟨h1, rfl⟩ | ⟨h1, h2, rfl⟩ | ⟨h1, h2, h3, rfl⟩ | ⟨h1, h2, h3, rfl, rfl⟩ | ⟨h1, h2, h3, rfl, rfl⟩ | ⟨h1, h2, h3, h4, rfl, rfl⟩
  · rw [decide_eq_false h1] at hne
    clear hcaseI h1
    go_wp2
    go_ret
    exact ⟨rfl, hb1⟩
  · rw [decide_eq_true h1] at hne
    clear hcaseI h1
    go_wp2
    go_ret
    exact ⟨rfl, hb1⟩
  · rw [decide_eq_true h1] at hne
    subst h2
    clear hcaseI h1
    go_wp2
    go_ret
    exact ⟨rfl, hb1⟩
  · rw [decide_eq_true h1] at hne
    subst h2
    clear hcaseI h1
    go_wp2_with (go_at_call 32; refine (cf.out _ _).mono ?_; rintro e w2 ⟨rfl, hb2⟩)
    go_ret
    exact ⟨rfl, hb1.trans (hb2.mono hb1.size)⟩
  · rw [decide_eq_true h1] at hne
    subst h2
    subst h3
    clear hcaseI h1
    go_wp2_with fail
    refine (cf.out _ _).mono ?_
    rintro e w2 ⟨rfl, hb2⟩
    clear z0 z1 z2 z3 z4 z5 z6 z7 z8 z9 z10
    have hbw := hb1.trans (hb2.mono hb1.size)
    obtain ⟨z0, z1, z2, z3, z4, z5, z6, z7, z8, z9, z10⟩ := hv.below hb2 hlt
    dsimp only at z0 z1 z2 z3 z4 z5 z6 z7 z8 z9 z10
    go_wp2_with (go_at_call 29; refine (cz.out _ _).mono ?_; rintro e w3 ⟨rfl, hb3⟩)
    go_ret
    exact ⟨rfl, hbw.trans (hb3.mono hbw.size)⟩
  · rw [decide_eq_true h1] at hne
    subst h2
    clear hcaseI h1
    go_wp2_with fail
    refine (cf.out _ _).mono ?_
    rintro e w2 ⟨rfl, hb2⟩
    clear z0 z1 z2 z3 z4 z5 z6 z7 z8 z9 z10
    have hbw := hb1.trans (hb2.mono hb1.size)
    obtain ⟨z0, z1, z2, z3, z4, z5, z6, z7, z8, z9, z10⟩ := hv.below hb2 hlt
    dsimp only at z0 z1 z2 z3 z4 z5 z6 z7 z8 z9 z10
    go_wp2_with (go_at_call 33; refine (cc1.out _).mono ?_; rintro e w3 ⟨rfl, nn, rfl⟩)
    go_ret
    exact ⟨rfl, below_drewN hbw _⟩
theorem holds_any (p : Int) (v : Vv) (w : World) (h : VAt v w w.heap.size) :
    Calls Try.prog 11 #[.int .i64 p, v.v] w fun e w' => e = .returned (.bool (holdB p v)) ∧ Below w.heap.size w w' := by
  by_cases h1 : v.d.kind = 1
  · exact holds1_any p v w h h1
  · by_cases h2 : v.d.kind = 2
    · exact holds2_any p v w h h2
    · exact holds3_any p v w h h1 h2
end Go.Proofs.Ytpiegngjpnpohaa.Sn

namespace Go.Proofs.Ytpiegngjpnpohaa.Sn
open Go.RowKit Go.Proofs.Ytpiegngjpnpohaa.La Go.Proofs.Ytpiegngjpnpohaa.Sl Go.Proofs.Ytpiegngjpnpohaa.Ck Go.Proofs.Ytpiegngjpnpohaa.Rc Go.Proofs.Ytpiegngjpnpohaa.Rk Go.Proofs.Ytpiegngjpnpohaa.Wi Go.Proofs.Ytpiegngjpnpohaa.Fb
set_option linter.unusedVariables false
def behV (u v : Vv) : Int := if cmpD u.d v.d = 0 then 10 else if 0 < cmpD u.d v.d then 15 else if u.d.name = v.d.name ∧ ¬ (u.d.kind = v.d.kind ∧ u.d.help = v.d.help) then 12 else 0
def stepE (p : Int) (prev : Option Vv) (v : Vv) : Int :=
  if chkD v.d ≠ 0 then chkD v.d else if holdB p v = false then 2 else match prev with
    | none => 0
    | some u => behV u v
def scan (p : Int) : Option Vv → List Vv → Int → Int × Int
  | _, [], _ => (0, 0)
  | prev, v :: r, i => if stepE p prev v ≠ 0 then (stepE p prev v, i) else scan p (some v) r (i + 1)
def chkS (p : Int) (vs : List Vv) : Int × Int := if p < 1 ∨ 14 < p then (1, 0) else if 256 < vs.length then (3, 256) else scan p none vs 0
def prevV (vs : List Vv) (k : Nat) : Option Vv := if k = 0 then none else vs[k - 1]?
theorem scan_next {p : Int} {vs : List Vv} {k : Nat} (h : k < vs.length) : scan p (prevV vs k) (vs.drop k) k = if stepE p (prevV vs k) vs[k] ≠ 0 then (stepE p (prevV vs k) vs[k], (k : Int)) else scan p (prevV vs (k + 1)) (vs.drop (k + 1)) ((k + 1 : Nat) : Int) := by
  rw [List.drop_eq_getElem_cons h, scan]
  have : prevV vs (k + 1) = some vs[k] := by unfold prevV; rw [if_neg (by omega), Nat.add_sub_cancel, List.getElem?_eq_getElem h]
  rw [this]; rfl
theorem scan_end {p : Int} {vs : List Vv} {k : Nat} (h : vs.length ≤ k) : scan p (prevV vs k) (vs.drop k) k = (0, 0) := by rw [List.drop_eq_nil_of_le h]; rfl
theorem DAt.check {d : DD} {w W : World} {B : Nat} (h : DAt d w B) (hB : B ≤ w.heap.size) (k : Below B w W) : Calls Try.prog 10 #[d.v] W fun e w' => e = .returned (.int .i64 (chkD d)) ∧ Below W.heap.size W w' :=
  check_any d (((h.below k).rd).mono (Nat.le_trans hB k.size)) h.cap h.len h.name h.help h.texts
theorem DAt.cmp {a b : DD} {w W : World} {B : Nat} (h : DAt a w B) (h' : DAt b w B) (hB : B ≤ w.heap.size) (k : Below B w W) : Calls Try.prog 12 #[a.v, b.v] W fun e w' => e = .returned (.int .i64 (cmpD a b)) ∧ Below W.heap.size W w' :=
  compare_any a b ⟨((h.below k).rd).mono (Nat.le_trans hB k.size), Nat.le_trans h.len2 (by decide)⟩ ⟨((h'.below k).rd).mono (Nat.le_trans hB k.size), Nat.le_trans h'.len2 (by decide)⟩ (Nat.le_refl _)
theorem beqS (a b : ByteArray) : (a.toList == b.toList) = decide (a = b) := by
  rw [Bool.eq_iff_iff]
  simp only [beq_iff_eq, decide_eq_true_eq]
  constructor
  · intro h
    rw [ByteArray.toList_eq, ByteArray.toList_eq] at h
    exact ByteArray.ext (Array.toList_inj.1 h)
  · rintro rfl; rfl
set_option maxRecDepth 100000 in
theorem alike_any (a b : DD) (w : World) :
    Calls Try.prog 13 #[a.v, b.v] w fun e w' => e = .returned (.bool (decide (a.kind = b.kind ∧ a.help = b.help))) ∧ Below w.heap.size w w' := by
  unfold DD.v
  obtain ⟨k1, n1, h1, A1, c1, l1⟩ := a
  obtain ⟨k2, n2, h2, A2, c2, l2⟩ := b
  dsimp only
  generalize l1.length = m1
  generalize l2.length = m2
  obtain ⟨r, hr⟩ : ∃ r, r = decide (k1 = k2 ∧ h1 = h2) := ⟨_, rfl⟩
  rw [← hr]
  have hcase : ((k1 == k2) = false ∧ r = false) ∨ ((k1 == k2) = true ∧ r = decide (h1 = h2)) := by
    rw [hr]
    by_cases e : k1 = k2
    · right; simp [e]
    · left; simp [e]
  have hb0 : Below w.heap.size w ((w.alloc (.cells #[.int .i64 k1, .string n1, .string h1, .slice A1 m1 c1] 35)).alloc (.cells #[.int .i64 k2, .string n2, .string h2, .slice A2 m2 c2] 35)) := ((Below.refl _ _).alloc (Nat.le_refl _) _).alloc (by simp) _
  clear hr
  rcases hcase with ⟨e1, rfl⟩ | ⟨e1, rfl⟩
  · go_enter Try.func13, Try.ntmps13
    go_wp2
    go_ret
    exact ⟨rfl, hb0⟩
  · go_enter Try.func13, Try.ntmps13
    go_wp2
    go_ret
    exact ⟨by simp [beqS], hb0⟩
set_option maxRecDepth 100000 in
set_option maxHeartbeats 8000000 in
theorem check_any (s : Ss) (w : World) (h : SAt s w w.heap.size) :
    Calls Try.prog 5 #[s.v] w fun e w' => e = .returned (.tuple #[.int .i64 (chkS s.p s.vs).1, .int .i64 (chkS s.p s.vs).2]) ∧ Below w.heap.size w w' := by
  have hvs := h.vs
  have hcap := h.cap
  have hlen := h.len
  have hp := h.p
  unfold Ss.v
  obtain ⟨p, A, c, vs, rf⟩ := s
  dsimp only at *
  clear h
  by_cases hp2 : p < 1 ∨ 14 < p
  · have e : chkS p vs = (1, 0) := by unfold chkS; rw [if_pos hp2]
    rw [e]
    generalize vs.length = n at *
    have hc : decide (p < 1) = true ∨ (decide (p < 1) = false ∧ (14 : Int) < p) := by
      by_cases g : p < 1
      · exact .inl (decide_eq_true g)
      · exact .inr ⟨decide_eq_false g, by omega⟩
    rcases hc with hc | ⟨hc1, hc2⟩
    all_goals
      go_enter Try.func5, Try.ntmps5
      go_wp2
      go_ret2
      exact ⟨rfl, (Below.refl _ _).alloc (Nat.le_refl _) _⟩
  · have hc1 : decide (p < 1) = false := decide_eq_false (by omega)
    have hc2 : ¬ (14 : Int) < p := by omega
    by_cases hn : 256 < vs.length
    · have e : chkS p vs = (3, 256) := by unfold chkS; rw [if_neg hp2, if_pos hn]
      rw [e]
      generalize vs.length = n at *
      have hnI : (256 : Int) < (n : Int) := by omega
      go_enter Try.func5, Try.ntmps5
      go_wp2
      go_ret2
      exact ⟨rfl, (Below.refl _ _).alloc (Nat.le_refl _) _⟩
    · have e : chkS p vs = scan p none vs 0 := by unfold chkS; rw [if_neg hp2, if_neg hn]
      rw [e]
      obtain ⟨R, hR⟩ : ∃ R, R = scan p none vs 0 := ⟨_, rfl⟩
      rw [← hR]
      obtain ⟨r1, r2⟩ := R
      dsimp only
      obtain ⟨n, hnd⟩ : ∃ n, n = vs.length := ⟨_, rfl⟩
      rw [← hnd] at hn hcap ⊢
      have hnI : ¬ (256 : Int) < (n : Int) := by omega
      clear e hp2 hcap hlen hn hp
      replace hvs := Lib.hid hvs
      replace hR := Lib.hid hR
      replace hnd := Lib.hid hnd
      go_enter Try.func5, Try.ntmps5
      go_upto_region 1 with fail
      have hb1 : Below w.heap.size w (w.alloc (.cells #[.int .i64 p, .slice A n c, .int .u64 rf] 29)) := (Below.refl _ _).alloc (Nat.le_refl _) _
      have hs1 : (w.alloc (.cells #[.int .i64 p, .slice A n c, .int .u64 rf] 29)).heap.size = w.heap.size + 1 := by simp
      have y0 : (w.alloc (.cells #[.int .i64 p, .slice A n c, .int .u64 rf] 29)).cell? ⟨w.heap.size, 0, none⟩ = some (.int .i64 p) := by rw [Mg.cell_new]; rfl
      have y1 : (w.alloc (.cells #[.int .i64 p, .slice A n c, .int .u64 rf] 29)).cell? ⟨w.heap.size, 1, none⟩ = some (.slice A n c) := by rw [Mg.cell_new]; rfl
      obtain ⟨w1, hw1⟩ : ∃ w1, w1 = w.alloc (.cells #[.int .i64 p, .slice A n c, .int .u64 rf] 29) := ⟨_, rfl⟩
      rw [← hw1] at hb1 hs1 y0 y1 ⊢
      clear hw1
      go_wp2
      go_loopw [26] (fun v wr => ∃ k : Nat, v = .int .i64 (k : Int) ∧ k ≤ n ∧ Below w1.heap.size w1 wr ∧ Hid (scan p (prevV vs k) (vs.drop k) k = (r1, r2))) (fun v _ => n - (intOf v).toNat)
      case atStart => exact ⟨0, rfl, Nat.zero_le _, Below.refl _ _, Lib.hid (by rw [hR.out]; rfl)⟩
      case round =>
        obtain ⟨k, rfl, hk, hbr, hsc⟩ := hrel
        have hbw : Below w.heap.size w wr := hb1.trans (hbr.mono hb1.size)
        by_cases hlt : k < n
        · have hil : k < vs.length := by rw [← hnd.out]; exact hlt
          have hnext := hsc.out
          rw [scan_next hil] at hnext
          obtain ⟨v, hv⟩ : ∃ v, v = vs[k] := ⟨_, rfl⟩
          have hva : VAt v w w.heap.size := by rw [hv]; exact hvs.out.all _ (List.getElem_mem hil)
          obtain ⟨b, off, hA, hbB, x0, x1, x2, x3, x4, x5, x6, x7, x8, x9, x10⟩ := (hvs.out.below hbw).cells k hil
          rw [← hv] at hnext x0 x1 x2 x3 x4 x5 x6 x7 x8 x9 x10
          subst hA
          replace hv := Lib.hid hv
          have gI : (k : Int) < (n : Int) := by omega
          have gI0 : (0 : Int) ≤ (k : Int) := by omega
          replace hsc := Lib.hid hsc
          have cck := fun W (kk : Below w.heap.size w W) => hva.d.check (Nat.le_refl _) kk
          have cho := fun W (kk : Below w.heap.size w W) => holds_any p v W ((hva.below kk).mono kk.size)
          have hprev : 0 < k → ∃ u, prevV vs k = some u ∧ vs[k - 1]? = some u := fun h0 => by
            refine ⟨vs[k - 1], ?_, List.getElem?_eq_getElem (by omega)⟩
            unfold prevV
            rw [if_neg (by omega), List.getElem?_eq_getElem (by omega)]
          have hnew := fun (w1 : World) (e : w1 = _) => V11.new wr 41 v (w1 := w1) e
          unfold Vv.row at hnew
          obtain ⟨me, hme⟩ : ∃ me, me = chkD v.d := ⟨_, rfl⟩
          obtain ⟨ho, hho⟩ : ∃ ho, ho = holdB p v := ⟨_, rfl⟩
          have hstep : stepE p (prevV vs k) v = if me ≠ 0 then me else if ho = false then 2 else match prevV vs k with
            | none => 0
            | some u => behV u v := by rw [hme, hho]; rfl
          rw [← hme] at cck
          rw [← hho] at cho
          replace cck := Lib.hid cck
          replace cho := Lib.hid cho
          replace hprev := Lib.hid hprev
          replace hnew := Lib.hid hnew
          replace hstep := Lib.hid hstep
          replace hnext := Lib.hid hnext
          clear hme hho
          obtain ⟨ln, hln⟩ : ∃ ln, ln = v.d.l.length := ⟨_, rfl⟩
          obtain ⟨cn, hcn⟩ : ∃ cn, cn = v.cs.length := ⟨_, rfl⟩
          rw [← hln] at x3
          rw [← hcn] at x6
          replace hln := Lib.hid hln
          replace hcn := Lib.hid hcn
          have hsf := fun (a : Addr) (x : Nat) (W : World) => run_store Try.prog W a (.float .f64 x) .plain rfl
          go_upto_region 8 with fail
          obtain ⟨w3, hw3⟩ : ∃ w3, w3 = wr.alloc (.cells #[.int .i64 v.d.kind, .string v.d.name, .string v.d.help, .slice v.d.A ln v.d.c, .int .i64 (hiI v.t), .int .u64 (loI v.t), .slice v.CA cn v.cc, .int .u64 v.n, .float .f64 v.sm, .float .f64 v.mn, .float .f64 v.mx] 41) := ⟨_, rfl⟩
          rw [← hw3]
          obtain ⟨hb3, hlt3, hv3⟩ := hnew.out w3 (by rw [hw3, hln.out, hcn.out])
          clear hw3 hnew x0 x1 x2 x3 x4 x5 x6 x7 x8 x9 x10
          have hbw3 := hbw.trans (hb3.mono hbw.size)
          have hbr3 := hbr.trans (hb3.mono hbr.size)
          have ycell := kc hbr3 (by omega) y1
          have ypr := kc hbr3 (by omega) y0
          have vget := fun W (kk : Below w.heap.size w W) (hk0 : 0 < k) => (hvs.out.below kk).cells (k - 1) (by rw [← hnd.out]; omega)
          replace vget := Lib.hid vget
          obtain ⟨z0, z1, z2, z3, z4, z5, z6, z7, z8, z9, z10⟩ := id hv3
          rw [← hln.out] at z3
          rw [← hcn.out] at z6
          have cck' := cck.out w3 hbw3
          unfold DD.v at cck'
          rw [← hln.out] at cck'
          go_upto_region 9 with (go_at_call 10; refine cck'.mono ?_; rintro e w4 ⟨rfl, hb4⟩)
          clear cck' cck z0 z1 z2 z3 z4 z5 z6 z7 z8 z9 z10 hsf
          have hv4 := hv3.below hb4 hlt3
          have hlt4 : wr.heap.size < w4.heap.size := Nat.lt_of_lt_of_le hlt3 hb4.size
          have hbw4 := hbw3.trans (hb4.mono hbw3.size)
          have hbr4 := hbr3.trans (hb4.mono hbr3.size)
          clear ycell ypr
          have ycell := kc hbr4 (by omega) y1
          have ypr := kc hbr4 (by omega) y0
          by_cases hme : me = 0
          · subst hme
            obtain ⟨z0, z1, z2, z3, z4, z5, z6, z7, z8, z9, z10⟩ := id hv4
            rw [← hln.out] at z3
            rw [← hcn.out] at z6
            have cho' := cho.out w4 hbw4
            unfold Vv.v at cho'
            rw [← hln.out, ← hcn.out] at cho'
            have hstep2 := hstep.out
            rw [if_neg (by decide)] at hstep2
            cases ho
            · rw [if_pos rfl] at hstep2
              have hfin := hnext.out
              rw [hstep2, if_pos (by decide)] at hfin
              obtain ⟨rfl, rfl⟩ : 2 = r1 ∧ (k : Int) = r2 := by simpa using hfin
              go_wp2_with (go_at_call 11; refine cho'.mono ?_; rintro e w5 ⟨rfl, hb5⟩)
              go_ret2
              exact ⟨rfl, hbw4.trans (hb5.mono hbw4.size)⟩
            · rw [if_neg (by decide)] at hstep2
              by_cases hk0 : k = 0
              · have hfin := hnext.out
                have hpn : prevV vs k = none := by unfold prevV; rw [if_pos hk0]
                rw [hstep2, hpn] at hfin
                dsimp only at hfin
                rw [if_neg (by decide)] at hfin
                replace hfin := Lib.hid hfin
                have gk0 : ((k : Int) == 0) = true := by simp [hk0]
                go_wp2_with (go_at_call 11; refine cho'.mono ?_; rintro e w5 ⟨rfl, hb5⟩)
                exact ⟨⟨k + 1, by go_num, hlt, hbr4.trans (hb5.mono hbr4.size), hfin⟩, by simp [intOf]; omega⟩
              · have gk0 : ((k : Int) == 0) = false := by simp [hk0]
                go_upto_region 14 with (go_at_call 11; refine cho'.mono ?_; rintro e w5 ⟨rfl, hb5⟩)
                clear z0 z1 z2 z3 z4 z5 z6 z7 z8 z9 z10 cho' cho ycell ypr
                have hv5 := hv4.below hb5 hlt4
                have hlt5 : wr.heap.size < w5.heap.size := Nat.lt_of_lt_of_le hlt4 hb5.size
                have hbw5 := hbw4.trans (hb5.mono hbw4.size)
                have hbr5 := hbr4.trans (hb5.mono hbr4.size)
                have ycell := kc hbr5 (by omega) y1
                obtain ⟨u, hu1, hu2⟩ := hprev.out (by omega)
                rw [hu1] at hstep2
                dsimp only at hstep2
                obtain ⟨b', off', hA', hbB', x0, x1, x2, x3, _⟩ := vget.out w5 hbw5 (by omega)
                cases hA'
                obtain ⟨hkl, hue⟩ := List.getElem?_eq_some_iff.1 hu2
                rw [hue] at x0 x1 x2 x3
                have hua : VAt u w w.heap.size := hvs.out.all u (by rw [← hue]; exact List.getElem_mem hkl)
                have gI1 : (1 : Int) ≤ (k : Int) := by omega
                have gI2 : (k : Int) - 1 < (n : Int) := by omega
                obtain ⟨lu, hlu⟩ : ∃ lu, lu = u.d.l.length := ⟨_, rfl⟩
                rw [← hlu] at x3
                have ccm := fun W (kk : Below w.heap.size w W) => hua.d.cmp hva.d (Nat.le_refl _) kk
                unfold DD.v at ccm
                rw [← hlu, ← hln.out] at ccm
                have hfin := hnext.out
                rw [hu1, hstep2] at hfin
                unfold behV at hfin
                obtain ⟨cm, hcm⟩ : ∃ cm, cm = cmpD u.d v.d := ⟨_, rfl⟩
                rw [← hcm] at hfin ccm
                replace hfin := Lib.hid hfin
                replace hlu := Lib.hid hlu
                replace ccm := Lib.hid ccm
                clear hcm hstep2 hue hu1 hu2 hkl hprev vget hstep hnext
                go_upto_region 15 with fail
                have hb6 : Below w5.heap.size w5 (w5.alloc (.cells #[.int .i64 u.d.kind, .string u.d.name, .string u.d.help, .slice u.d.A lu u.d.c] 35)) := (Below.refl _ _).alloc (Nat.le_refl _) _
                have g0 : (w5.alloc (.cells #[.int .i64 u.d.kind, .string u.d.name, .string u.d.help, .slice u.d.A lu u.d.c] 35)).cell? ⟨w5.heap.size, 0, none⟩ = some (.int .i64 u.d.kind) := by rw [Mg.cell_new]; rfl
                have g1 : (w5.alloc (.cells #[.int .i64 u.d.kind, .string u.d.name, .string u.d.help, .slice u.d.A lu u.d.c] 35)).cell? ⟨w5.heap.size, 1, none⟩ = some (.string u.d.name) := by rw [Mg.cell_new]; rfl
                have g2 : (w5.alloc (.cells #[.int .i64 u.d.kind, .string u.d.name, .string u.d.help, .slice u.d.A lu u.d.c] 35)).cell? ⟨w5.heap.size, 2, none⟩ = some (.string u.d.help) := by rw [Mg.cell_new]; rfl
                have g3 : (w5.alloc (.cells #[.int .i64 u.d.kind, .string u.d.name, .string u.d.help, .slice u.d.A lu u.d.c] 35)).cell? ⟨w5.heap.size, 3, none⟩ = some (.slice u.d.A lu u.d.c) := by rw [Mg.cell_new]; rfl
                have hs6 : w5.heap.size < (w5.alloc (.cells #[.int .i64 u.d.kind, .string u.d.name, .string u.d.help, .slice u.d.A lu u.d.c] 35)).heap.size := by simp
                obtain ⟨w6, hw6⟩ : ∃ w6, w6 = w5.alloc (.cells #[.int .i64 u.d.kind, .string u.d.name, .string u.d.help, .slice u.d.A lu u.d.c] 35) := ⟨_, rfl⟩
                rw [← hw6] at hb6 g0 g1 g2 g3 hs6 ⊢
                clear hw6 x0 x1 x2 x3
                have hv6 := hv5.below hb6 hlt5
                have hlt6 : wr.heap.size < w6.heap.size := Nat.lt_of_lt_of_le hlt5 hb6.size
                have hbw6 := hbw5.trans (hb6.mono hbw5.size)
                have hbr6 := hbr5.trans (hb6.mono hbr5.size)
                obtain ⟨z0, z1, z2, z3, z4, z5, z6, z7, z8, z9, z10⟩ := id hv6
                rw [← hln.out] at z3
                rw [← hcn.out] at z6
                go_upto_region 16 with (go_at_call 12; refine (ccm.out _ hbw6).mono ?_; rintro e w7 ⟨rfl, hb7⟩)
                have hv7 := hv6.below hb7 hlt6
                have hbw7 := hbw6.trans (hb7.mono hbw6.size)
                have hbr7 := hbr6.trans (hb7.mono hbr6.size)
                have q0 := kc hb7 hs6 g0
                have q1 := kc hb7 hs6 g1
                have q2 := kc hb7 hs6 g2
                have q3 := kc hb7 hs6 g3
                clear z0 z1 z2 z3 z4 z5 z6 z7 z8 z9 z10 g0 g1 g2 g3 ycell
                obtain ⟨z0, z1, z2, z3, z4, z5, z6, z7, z8, z9, z10⟩ := id hv7
                rw [← hln.out] at z3
                rw [← hcn.out] at z6
                have hfin := hfin.out
                by_cases hc0 : cm = 0
                · rw [if_pos hc0, if_pos (by decide)] at hfin
                  obtain ⟨rfl, rfl⟩ : 10 = r1 ∧ (k : Int) = r2 := by simpa using hfin
                  subst hc0
                  go_wp2
                  go_ret2
                  exact ⟨rfl, hbw7⟩
                · have hc0' : (cm == 0) = false := by simpa using hc0
                  rw [if_neg hc0] at hfin
                  by_cases hc1 : 0 < cm
                  · rw [if_pos hc1, if_pos (by decide)] at hfin
                    obtain ⟨rfl, rfl⟩ : 15 = r1 ∧ (k : Int) = r2 := by simpa using hfin
                    clear hc0
                    go_wp2
                    go_ret2
                    exact ⟨rfl, hbw7⟩
                  · rw [if_neg hc1] at hfin
                    clear hc0
                    have cal := alike_any u.d v.d
                    unfold DD.v at cal
                    rw [← hlu.out, ← hln.out] at cal
                    by_cases hnm : u.d.name = v.d.name
                    · have hnm' : (u.d.name.toList == v.d.name.toList) = true := by rw [beqS]; exact decide_eq_true hnm
                      by_cases hal : u.d.kind = v.d.kind ∧ u.d.help = v.d.help
                      · rw [if_neg (c := u.d.name = v.d.name ∧ ¬ (u.d.kind = v.d.kind ∧ u.d.help = v.d.help)) (fun h => h.2 hal), if_neg (by decide)] at hfin
                        rw [decide_eq_true hal] at cal
                        replace hfin := Lib.hid hfin
                        replace hnm := Lib.hid hnm
                        replace hal := Lib.hid hal
                        go_wp2_with (go_at_call 13; refine (cal _).mono ?_; rintro e w8 ⟨rfl, hb8⟩)
                        exact ⟨⟨k + 1, by go_num, hlt, hbr7.trans (hb8.mono hbr7.size), hfin⟩, by simp [intOf]; omega⟩
                      · rw [if_pos (c := u.d.name = v.d.name ∧ ¬ (u.d.kind = v.d.kind ∧ u.d.help = v.d.help)) ⟨hnm, hal⟩, if_pos (by decide)] at hfin
                        rw [decide_eq_false hal] at cal
                        obtain ⟨rfl, rfl⟩ : 12 = r1 ∧ (k : Int) = r2 := by simpa using hfin
                        replace hnm := Lib.hid hnm
                        replace hal := Lib.hid hal
                        go_wp2_with (go_at_call 13; refine (cal _).mono ?_; rintro e w8 ⟨rfl, hb8⟩)
                        go_ret2
                        exact ⟨rfl, hbw7.trans (hb8.mono hbw7.size)⟩
                    · have hnm' : (u.d.name.toList == v.d.name.toList) = false := by rw [beqS]; exact decide_eq_false hnm
                      rw [if_neg (c := u.d.name = v.d.name ∧ ¬ (u.d.kind = v.d.kind ∧ u.d.help = v.d.help)) (fun h => hnm h.1), if_neg (by decide)] at hfin
                      replace hfin := Lib.hid hfin
                      clear cal
                      replace hnm := Lib.hid hnm
                      go_wp2
                      exact ⟨⟨k + 1, by go_num, hlt, hbr7, hfin⟩, by simp [intOf]; omega⟩
          · have hstep2 := hstep.out
            rw [if_pos hme] at hstep2
            have hfin := hnext.out
            rw [hstep2, if_pos hme] at hfin
            obtain ⟨rfl, rfl⟩ : me = r1 ∧ (k : Int) = r2 := by simpa using hfin
            have hme' : (me != 0) = true := by simpa using hme
            clear hstep2 hfin hme
            go_wp2
            go_ret2
            exact ⟨rfl, hbw4⟩
        · obtain rfl : k = n := by omega
          have := hsc.out
          rw [scan_end (by rw [hnd.out]; exact Nat.le_refl _)] at this
          cases this
          go_wp2
          go_ret2
          exact ⟨rfl, hbw⟩
end Go.Proofs.Ytpiegngjpnpohaa.Sn
