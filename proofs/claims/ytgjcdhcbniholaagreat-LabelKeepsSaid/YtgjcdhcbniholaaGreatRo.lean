/- The document's one: the walk. -/
import Derived.Test.YtgjcdhcbniholaaGreatRv
import Derived.Test.YtgjcdhcbniholaaGreatLaC
import Derived.Test.YtgjcdhcbniholaaGreatRc1
import Derived.Deep.DeepCutAuto
import Derived.BigQuiet
namespace Go.Proofs.YtgjcdhcbniholaaGreat.Rv
open Go.RowKit Go.Proofs.YtgjcdhcbniholaaGreat.La Go.Proofs.YtgjcdhcbniholaaGreat.Rc Go.Proofs.YtgjcdhcbniholaaGreat.Sl
set_option linter.unusedVariables false

theorem results_ctc {fn : Func} {t p u : Tmp} {ty ty2 : TypeId} (h : fn.results = #[.cell t ty, .tmp u, .cell p ty2]) (tmps : Array Value) (P : Program) (w : World) :
    (results fn tmps).run P w = ((asAddr (tmps.getD t undef)).run P w).andThen fun a0 w₀ => ((loadVar ty a0).run P w₀).andThen fun v0 w₀' => ((asAddr (tmps.getD p undef)).run P w₀').andThen fun a w₁ => ((loadVar ty2 a).run P w₁).andThen fun v w₂ => .ok (.tuple #[v0, tmps.getD u undef, v]) w₂ := by
  simp only [results, h]
  simp [Sem.run_bind, Result.andThen]

/-- What 'one' answers. -/
def LPost (r : LRes) (e : Ending) : Prop := match r with
  | .ok x next => e = .returned (.tuple #[.agg #[.string x.1, .string x.2], .int .i64 (next : Int), .agg #[.int .i64 0, .int .i64 0]])
  | .bad er a => ∃ x : Lab, e = .returned (.tuple #[.agg #[.string x.1, .string x.2], .int .i64 0, .agg #[.int .i64 er, .int .i64 (a : Int)]])

set_option maxRecDepth 100000 in
set_option maxHeartbeats 8000000 in
theorem rone_any (s : ByteArray) (p : Nat) (A : Option Addr) (c : Nat) (l : List Lab) (hp : p ≤ s.size) (hs : s.size ≤ 140737488351232) (w : World) (h : Rd w w.heap.size 2 A (labs l) l.length) (hl : l.length ≤ 16) :
    Calls Tryz.prog 27 #[.string s, .int .i64 (p : Int), .slice A l.length c] w fun e w' => LPost (labR s l p) e ∧ Below w.heap.size w w' := by
  obtain ⟨w0, hw0⟩ : ∃ w0, w0 = (w.alloc (.cells #[.string ⟨#[]⟩, .string ⟨#[]⟩] 45)).alloc (.cells #[.int .i64 0, .int .i64 0] 29) := ⟨_, rfl⟩
  have bel0 : Below w.heap.size w w0 := by rw [hw0]; exact ((Below.refl _ _).alloc (Nat.le_refl _) _).alloc (by simp) _
  have g1 : w0.heap[w.heap.size]? = some (.cells #[.string ⟨#[]⟩, .string ⟨#[]⟩] 45 (0, 0)) := by rw [hw0]; exact (heap_alloc_old _ _ (by simp)).trans (heap_alloc_new _ _)
  have g2 : w0.heap[w.heap.size + 1]? = some (.cells #[.int .i64 0, .int .i64 0] 29 (0, 0)) := by
    have := heap_alloc_new (w.alloc (.cells #[.string ⟨#[]⟩, .string ⟨#[]⟩] 45)) (.cells #[.int .i64 0, .int .i64 0] 29)
    simp only [World.size_alloc] at this
    rw [hw0]; exact this
  have hsz0 : w0.heap.size = w.heap.size + 2 := by rw [hw0]; simp
  have rd0 := h.below bel0
  have cells : ∀ wr, Below (w.heap.size + 2) w0 wr → (wr.cell? ⟨w.heap.size, 0, none⟩ = some (.string ⟨#[]⟩) ∧ wr.cell? ⟨w.heap.size, 1, none⟩ = some (.string ⟨#[]⟩) ∧ wr.frozen? ⟨w.heap.size, 0, none⟩ = false ∧ wr.frozen? ⟨w.heap.size, 1, none⟩ = false) ∧
      (wr.cell? ⟨w.heap.size + 1, 0, none⟩ = some (.int .i64 0) ∧ wr.cell? ⟨w.heap.size + 1, 1, none⟩ = some (.int .i64 0) ∧ wr.frozen? ⟨w.heap.size + 1, 0, none⟩ = false ∧ wr.frozen? ⟨w.heap.size + 1, 1, none⟩ = false) := by
    intro wr k
    have e1 := (k.block w.heap.size (by omega)).trans g1
    have e2 := (k.block (w.heap.size + 1) (by omega)).trans g2
    exact ⟨⟨by rw [cell_of_row _ _ _ _ _ _ e1]; rfl, by rw [cell_of_row _ _ _ _ _ _ e1]; rfl, by simp [World.frozen?, e1], by simp [World.frozen?, e1]⟩, ⟨by rw [cell_of_row _ _ _ _ _ _ e2]; rfl, by rw [cell_of_row _ _ _ _ _ _ e2]; rfl, by simp [World.frozen?, e2], by simp [World.frozen?, e2]⟩⟩
  have belx : ∀ wr, Below w.heap.size w wr → ∀ u v x y, Below w.heap.size w ((((wr.setCell ⟨w.heap.size, 0, none⟩ u).setCell ⟨w.heap.size, 1, none⟩ v).setCell ⟨w.heap.size + 1, 0, none⟩ x).setCell ⟨w.heap.size + 1, 1, none⟩ y) := fun wr k u v x y =>
    (((k.setCell (p := ⟨w.heap.size, 0, none⟩) (Nat.le_refl _) u).setCell (p := ⟨w.heap.size, 1, none⟩) (Nat.le_refl _) v).setCell (p := ⟨w.heap.size + 1, 0, none⟩) (by simp) x).setCell (p := ⟨w.heap.size + 1, 1, none⟩) (by simp) y
  obtain ⟨n, hn⟩ : ∃ n, n = l.length := ⟨_, rfl⟩
  have hn16 : n ≤ 16 := by omega
  rw [← hn] at rd0 ⊢
  obtain ⟨⟨a1, a2, a3, a4⟩, a5, a6, a7, a8⟩ := cells w0 (Below.refl _ _)
  have belw := belx w0 bel0
  obtain ⟨R, hR⟩ : ∃ R, R = labR s l p := ⟨_, rfl⟩
  rw [← hR]
  unfold labR at hR
  rw [← hn] at hR
  replace hw0 := Lib.hid hw0
  replace hn := Lib.hid hn
  replace cells := Lib.hid cells
  replace belx := Lib.hid belx
  replace rd0 := Lib.hid rd0
  clear g1 g2 h hl
  by_cases h16 : n = 16
  · rw [if_pos h16] at hR
    subst hR
    have t1 : ((n : Int) == 16) = true := by simp; omega
    clear h16 hs
    go_enter Tryz.func27, Tryz.ntmps27
    go_upto_region 1 with fail
    rw [← hw0.out]
    go_wp2
    refine bodyPost_ret (v := .tuple #[.agg #[.string ⟨#[]⟩, .string ⟨#[]⟩], .int .i64 0, .agg #[.int .i64 3, .int .i64 (p : Int)]]) ?_ rfl ⟨⟨(⟨#[]⟩, ⟨#[]⟩), rfl⟩, belw _ _ _ _⟩
    rw [results_ctc rfl]
    go_simp
    try rfl
  rw [if_neg h16] at hR
  have t1 : ((n : Int) == 16) = false := by simp; omega
  have hrl := rowLen_le false s p hp
  have crow := row_any s p false (by omega) hp
  rw [show (rowL false (s.data.toList.drop p)).length = La.rowLen false s p from rfl] at crow
  obtain ⟨r, hr⟩ : ∃ r, r = La.rowLen false s p := ⟨_, rfl⟩
  obtain ⟨nm, hnm⟩ : ∃ nm, nm = rowS false s p := ⟨_, rfl⟩
  rw [← hr] at hR hrl crow
  rw [← hnm] at hR
  have hnm2 : s.extract p (p + r) = nm := by rw [hnm, hr]; rfl
  have hnsz : nm.size ≤ 9223372036854775807 := by rw [← hnm2, ByteArray.size_extract]; omega
  have cl := rlname_any nm hnsz
  obtain ⟨q, hq, hqI⟩ : ∃ q, q = p + r ∧ (p : Int) + (r : Int) = (q : Int) := ⟨_, rfl, by omega⟩
  rw [← hq] at hR hrl hnm2
  have hqs : q ≤ s.size := hrl
  have hpq : p ≤ q := by omega
  have hqb : (q : Int) ≤ 140737488351232 := by omega
  have hsb : (s.size : Int) ≤ 140737488351232 := by omega
  have hqsI : (q : Int) ≤ (s.size : Int) := by omega
  have hpqI : (p : Int) ≤ (q : Int) := by omega
  have hp0 : (0 : Int) ≤ (p : Int) := by omega
  have hr0 : (0 : Int) ≤ (r : Int) := by omega
  replace crow := Lib.hid crow
  replace cl := Lib.hid cl
  replace hnm2 := Lib.hid hnm2
  replace hq := Lib.hid hq
  clear hr hnm hnsz hrl
  have hex : ∀ x, s.extract p x = s.extract p x := fun _ => rfl
  clear hex
  by_cases hln : lnameL nm.data.toList = false
  · rw [if_pos hln] at hR
    subst hR
    rw [hln] at cl
    clear hln hs
    go_enter Tryz.func27, Tryz.ntmps27
    go_upto_region 1 with fail
    rw [← hw0.out]
    go_wp2_with fail
    refine (crow.out _).mono ?_
    rintro e w' ⟨rfl, hw⟩
    rw [hw]; clear hw w'
    go_wp2_with fail
    simp only [hnm2.out]
    refine (cl.out _).mono ?_
    rintro e w' ⟨rfl, hw⟩
    rw [hw]; clear hw w'
    go_wp2
    refine bodyPost_ret (v := .tuple #[.agg #[.string ⟨#[]⟩, .string ⟨#[]⟩], .int .i64 0, .agg #[.int .i64 9, .int .i64 (p : Int)]]) ?_ rfl ⟨⟨(⟨#[]⟩, ⟨#[]⟩), rfl⟩, belw _ _ _ _⟩
    rw [results_ctc rfl]
    go_simp
    try rfl
  rw [if_neg hln] at hR
  have hln2 : lnameL nm.data.toList = true := by simpa using hln
  rw [hln2] at cl
  clear hln hln2 h16
  have hlast : 0 < n → ∃ (b0 off : Nat) (y : ByteArray), A = some ⟨b0, off, none⟩ ∧ b0 < w.heap.size ∧ w0.cell? ⟨b0, off + (n - 1) * 2, none⟩ = some (.string y) ∧ behE l nm = behB y nm := fun h0 => by
    obtain ⟨b0, off, hA, hb, z0, _⟩ := rd_lab rd0.out (n - 1) (by rw [← hn.out]; omega) hn.out
    refine ⟨b0, off, _, hA, hb, z0, behE_last l _ ?_ nm⟩
    have hln : l.length - 1 = n - 1 := by have := hn.out; omega
    rw [List.getLast?_eq_getElem?]
    simp only [hln]
    exact List.getElem?_eq_getElem _
  obtain ⟨be, hbe⟩ : ∃ be, be = behE l nm := ⟨_, rfl⟩
  have hbe0 : n = 0 → be = 0 := fun h0 => by
    rw [hbe, List.eq_nil_of_length_eq_zero (show l.length = 0 by rw [← hn.out]; exact h0)]; rfl
  rw [← hbe] at hR hlast
  replace hlast := Lib.hid hlast
  clear hbe
  by_cases hbz : be ≠ 0
  · rw [if_pos hbz] at hR
    subst hR
    have hn0 : 0 < n := Nat.pos_of_ne_zero (fun h0 => hbz (hbe0 h0))
    obtain ⟨b0, off, y, hA, hb, z0, hby⟩ := hlast.out hn0
    subst hA
    have cb := rbehind_any y nm
    rw [← hby] at cb
    have i0 : (0 : Int) < (n : Int) := by omega
    have i1 : (1 : Int) ≤ (n : Int) := by omega
    have i3 : (n : Int) ≤ 16 := by omega
    have t2 : (be != 0) = true := by simpa using hbz
    replace cb := Lib.hid cb
    clear hbz hs hbe0 hby
    go_enter Tryz.func27, Tryz.ntmps27
    go_upto_region 1 with fail
    rw [← hw0.out]
    go_wp2_with fail
    refine (crow.out _).mono ?_
    rintro e w' ⟨rfl, hw⟩
    rw [hw]; clear hw w'
    go_wp2_with fail
    simp only [hnm2.out]
    refine (cl.out _).mono ?_
    rintro e w' ⟨rfl, hw⟩
    rw [hw]; clear hw w'
    go_wp2_with fail
    refine (cb.out _).mono ?_
    rintro e w' ⟨rfl, hw⟩
    rw [hw]; clear hw w'
    go_wp2
    refine bodyPost_ret (v := .tuple #[.agg #[.string ⟨#[]⟩, .string ⟨#[]⟩], .int .i64 0, .agg #[.int .i64 be, .int .i64 (p : Int)]]) ?_ rfl ⟨⟨(⟨#[]⟩, ⟨#[]⟩), rfl⟩, belw _ _ _ _⟩
    rw [results_ctc rfl]
    go_simp
    try rfl
  rw [if_neg hbz] at hR
  have hbz0 : be = 0 := Decidable.not_not.1 hbz
  rw [hbz0] at hlast
  have hlast2 := hlast.out
  clear hbz hbe0 hlast hbz0
  replace hlast2 := Lib.hid hlast2
  replace hR := Lib.hid hR
  go_enter Tryz.func27, Tryz.ntmps27
  go_upto_region 1 with fail
  rw [← hw0.out]
  go_wp2_with fail
  refine (crow.out _).mono ?_
  rintro e w' ⟨rfl, hw⟩
  rw [hw]; clear hw w'
  go_wp2_with fail
  simp only [hnm2.out]
  refine (cl.out _).mono ?_
  rintro e w' ⟨rfl, hw⟩
  rw [hw]; clear hw w'
  go_upto_if 39 with fail
  go_cut [10] (fun s10 wx => s10 = .string nm ∧ wx = w0)
  case first => as_aux_lemma =>
    by_cases hn0 : 0 < n
    · obtain ⟨b0, off, y, hA, hb, z0, hby⟩ := hlast2.out hn0
      subst hA
      have cb := rbehind_any y nm
      rw [← hby] at cb
      have i0 : (0 : Int) < (n : Int) := by omega
      have i1 : (1 : Int) ≤ (n : Int) := by omega
      have i3 : (n : Int) ≤ 16 := by omega
      replace cb := Lib.hid cb
      clear hby hs
      go_wp2_with fail
      refine (cb.out _).mono ?_
      rintro e w' ⟨rfl, hw⟩
      rw [hw]; clear hw w'
      go_wp2
      go_meet
      case rel => exact ⟨rfl, rfl⟩
    · obtain rfl : n = 0 := by omega
      go_wp2
      go_meet
      case rel => exact ⟨rfl, rfl⟩
  case rest => as_aux_lemma =>
    obtain ⟨rfl, hwc⟩ := hcut
    subst hwc
    clear hlast2 crow cl a1 a2 a3 a4 a5 a6 a7 a8 belw
    go_wp2
    go_loopw [1, 12] (fun a v wr => ∃ k : Nat, a = .int .i64 ((q : Int) + k) ∧ v = .int .i64 (k : Int) ∧ k ≤ 2 ∧ Hid (1 ≤ k → isAt s q 61) ∧ Hid (2 ≤ k → isAt s (q + 1) 34) ∧ Below (w.heap.size + 2) wc wr) (fun _ v _ => 3 - natOf v)
    case atStart => exact ⟨0, by simp, rfl, by omega, Lib.hid (fun h => by omega), Lib.hid (fun h => by omega), Below.refl _ _⟩
    case round =>
      obtain ⟨k, rfl, rfl, hk2, h61, h34, hb⟩ := hrel
      obtain ⟨⟨a1, a2, a3, a4⟩, a5, a6, a7, a8⟩ := cells.out wr hb
      have belr : Below w.heap.size w wr := bel0.trans (hb.mono (by omega))
      have belw := belx.out wr belr
      have beln := fun n => belx.out (wr.drewN n) (below_drewN belr n)
      replace beln := Lib.hid beln
      have hk3 : k = 0 ∨ k = 1 ∨ k = 2 := by omega
      rcases hk3 with rfl | rfl | rfl
      · have e0 : (q : Int) + ((0 : Nat) : Int) = (q : Int) := by simp
        rw [e0]
        clear e0
        have x0 : ∀ h, (⟨#[61, 34]⟩ : ByteArray)[0]'h = 61 := fun _ => rfl
        have x1 : (⟨#[61, 34]⟩ : ByteArray).size = 2 := rfl
        by_cases hA : isAt s q 61
        · obtain ⟨j1, j2⟩ := hA
          have t3 : ((q : Int) == (s.size : Int)) = false := by simp; omega
          have t4 : (q : Int) < (s.size : Int) := by omega
          have t5 : ((s[q].toNat : Int) != 61) = false := by rw [j2]; rfl
          have t6 : (s[q] != 61) = false := by rw [j2]; rfl
          have t7 : (s[q].toNat : Int) = 61 := by rw [j2]; rfl
          have hst : isAt s q 61 := ⟨j1, j2⟩
          replace hst := Lib.hid hst
          clear j2 t5
          go_wp2
          go_quiet (fail)
          go_wp2
          exact ⟨⟨1, by simp, rfl, by omega, fun _ => hst, Lib.hid (fun h => by omega), below_drewN hb _⟩, by simp [natOf]⟩
        · have hres : R = .bad 5 q := by
            have h1 := hR.out
            rw [if_pos hA] at h1
            exact h1
          subst hres
          by_cases j1 : q < s.size
          · have t3 : ((q : Int) == (s.size : Int)) = false := by simp; omega
            have t4 : (q : Int) < (s.size : Int) := by omega
            have j2 : s[q] ≠ 61 := fun e => hA ⟨j1, e⟩
            have t7 : ((s[q].toNat : Int) != 61) = true := by rw [bne, u8_lit s[q] 61 61 rfl]; simpa using j2
            clear hA j2
            go_wp2
            go_quiet (fail)
            go_wp2
            refine bodyPost_ret (v := .tuple #[.agg #[.string ⟨#[]⟩, .string ⟨#[]⟩], .int .i64 0, .agg #[.int .i64 5, .int .i64 (q : Int)]]) ?_ rfl ⟨⟨(⟨#[]⟩, ⟨#[]⟩), rfl⟩, beln.out _ _ _ _ _⟩
            rw [results_ctc rfl]
            go_simp
            try rfl
          · have t3 : ((q : Int) == (s.size : Int)) = true := by simp; omega
            clear hA
            go_wp2
            go_quiet (fail)
            go_wp2
            refine bodyPost_ret (v := .tuple #[.agg #[.string ⟨#[]⟩, .string ⟨#[]⟩], .int .i64 0, .agg #[.int .i64 5, .int .i64 (q : Int)]]) ?_ rfl ⟨⟨(⟨#[]⟩, ⟨#[]⟩), rfl⟩, beln.out _ _ _ _ _⟩
            rw [results_ctc rfl]
            go_simp
            try rfl
      · obtain ⟨q1, hq1, e0⟩ : ∃ q1, q1 = q + 1 ∧ (q : Int) + ((1 : Nat) : Int) = (q1 : Int) := ⟨_, rfl, by simp⟩
        rw [e0]
        have q1b : (q1 : Int) ≤ 140737488351233 := by omega
        have q1s : q1 ≤ s.size := by obtain ⟨u, _⟩ := h61.out (by omega); omega
        clear e0
        replace hq1 := Lib.hid hq1
        have x0 : ∀ h, (⟨#[61, 34]⟩ : ByteArray)[1]'h = 34 := fun _ => rfl
        have x1 : (⟨#[61, 34]⟩ : ByteArray).size = 2 := rfl
        by_cases hA : isAt s q1 34
        · obtain ⟨j1, j2⟩ := hA
          have t3 : ((q1 : Int) == (s.size : Int)) = false := by simp; omega
          have t4 : (q1 : Int) < (s.size : Int) := by omega
          have t5 : ((s[q1].toNat : Int) != 61) = true := by rw [j2]; rfl
          have t6 : (s[q1] != 34) = false := by rw [j2]; rfl
          have t7 : (s[q1].toNat : Int) = 34 := by rw [j2]; rfl
          have hst : isAt s q1 34 := ⟨j1, j2⟩
          replace hst := Lib.hid hst
          clear j2 t5
          go_wp2
          go_quiet (fail)
          go_wp2
          exact ⟨⟨2, by rw [show ((q : Int) + ((2 : Nat) : Int)) = (q1 : Int) + 1 by have := hq1.out; omega], rfl, by omega, fun _ => h61.out (by omega), Lib.hid (fun _ => by rw [← hq1.out]; exact hst.out), below_drewN hb _⟩, by simp [natOf]⟩
        · have hres : R = .bad 5 q1 := by
            have h1 := hR.out
            rw [if_neg (fun k => k (h61.out (by omega))), ← hq1.out, if_pos hA] at h1
            exact h1
          subst hres
          by_cases j1 : q1 < s.size
          · have t3 : ((q1 : Int) == (s.size : Int)) = false := by simp; omega
            have t4 : (q1 : Int) < (s.size : Int) := by omega
            have j2 : s[q1] ≠ 34 := fun e => hA ⟨j1, e⟩
            have t7 : ((s[q1].toNat : Int) != 34) = true := by rw [bne, u8_lit s[q1] 34 34 rfl]; simpa using j2
            clear hA j2
            go_wp2
            go_quiet (fail)
            go_wp2
            refine bodyPost_ret (v := .tuple #[.agg #[.string ⟨#[]⟩, .string ⟨#[]⟩], .int .i64 0, .agg #[.int .i64 5, .int .i64 (q1 : Int)]]) ?_ rfl ⟨⟨(⟨#[]⟩, ⟨#[]⟩), rfl⟩, beln.out _ _ _ _ _⟩
            rw [results_ctc rfl]
            go_simp
            try rfl
          · have t3 : ((q1 : Int) == (s.size : Int)) = true := by simp; omega
            clear hA
            go_wp2
            go_quiet (fail)
            go_wp2
            refine bodyPost_ret (v := .tuple #[.agg #[.string ⟨#[]⟩, .string ⟨#[]⟩], .int .i64 0, .agg #[.int .i64 5, .int .i64 (q1 : Int)]]) ?_ rfl ⟨⟨(⟨#[]⟩, ⟨#[]⟩), rfl⟩, beln.out _ _ _ _ _⟩
            rw [results_ctc rfl]
            go_simp
            try rfl
      · have h61' := h61.out (by omega)
        have h34' := h34.out (by omega)
        have hq2 : q + 2 ≤ s.size := by obtain ⟨u, _⟩ := h34'; omega
        have e0 : (q : Int) + ((2 : Nat) : Int) = ((q + 2 : Nat) : Int) := by simp
        rw [e0]
        obtain ⟨q2, hq2e⟩ : ∃ q2, q2 = q + 2 := ⟨_, rfl⟩
        rw [← hq2e] at hq2 ⊢
        have cv := rvalue_any s q2 hq2 hs
        have hR2 := hR.out
        rw [if_neg (fun k => k h61'), if_neg (fun k => k h34'), ← hq2e] at hR2
        have hws : w.heap.size + 2 ≤ wr.heap.size := by have := hb.size; omega
        clear h61 h34 h61' h34' e0 hq2e hR hs
        replace cv := Lib.hid cv
        cases htx : textR s q2 with
        | ok bytes next =>
          rw [htx] at cv hR2
          simp only at hR2
          subst hR2
          clear htx
          go_wp2_with fail
          refine (cv.out _).mono ?_
          rintro e w5 ⟨rfl, hb5⟩
          unfold tresE
          have hb6 := hb.trans (hb5.mono hws)
          have bel5 : Below w.heap.size w w5 := belr.trans (hb5.mono (by omega))
          have hws5 : w.heap.size + 2 ≤ w5.heap.size := by have := hb5.size; omega
          clear a1 a2 a3 a4 a5 a6 a7 a8 belw beln cv
          go_wp2
          obtain ⟨w6, hw6⟩ : ∃ w6, w6 = w5.alloc (.cells #[.int .i64 0, .int .i64 0] 29) := ⟨_, rfl⟩
          rw [← hw6]
          have y1 : w6.cell? ⟨w5.heap.size, 0, none⟩ = some (.int .i64 0) := by rw [hw6, cell_of_row _ _ _ _ _ _ (heap_alloc_new _ _)]; rfl
          have y2 : w6.cell? ⟨w5.heap.size, 1, none⟩ = some (.int .i64 0) := by rw [hw6, cell_of_row _ _ _ _ _ _ (heap_alloc_new _ _)]; rfl
          obtain ⟨⟨b1, b2, b3, b4⟩, b5, b6, b7, b8⟩ := cells.out w6 (by rw [hw6]; exact hb6.alloc (by omega) _)
          have bel7 := belx.out w6.drew (Below.drew (by rw [hw6]; exact bel5.alloc (by omega) _))
          obtain ⟨g, hg⟩ : ∃ g, g = w5.heap.size := ⟨_, rfl⟩
          rw [← hg] at y1 y2 ⊢
          have g1 : g ≠ w.heap.size := by omega
          have g2 : g ≠ w.heap.size + 1 := by omega
          have g3 : w.heap.size ≠ g := by omega
          have g4 : w.heap.size + 1 ≠ g := by omega
          replace bel7 := Lib.hid bel7
          clear hw6 hg hb6 bel5 hws5 hb5 hws hb belr bel0
          go_region
          all_goals
            go_wp2
            refine bodyPost_ret (v := .tuple #[.agg #[.string nm, .string ⟨bytes.toArray⟩], .int .i64 (next : Int), .agg #[.int .i64 0, .int .i64 0]]) ?_ rfl ⟨rfl, bel7.out _ _ _ _⟩
            rw [results_ctc rfl]
            go_simp
            try rfl
        | bad er a =>
          rw [htx] at cv hR2
          simp only at hR2
          subst hR2
          clear htx
          go_wp2_with fail
          refine (cv.out _).mono ?_
          rintro e w5 ⟨rfl, hb5⟩
          unfold tresE
          have hb6 := hb.trans (hb5.mono hws)
          have bel5 : Below w.heap.size w w5 := belr.trans (hb5.mono (by omega))
          have hws5 : w.heap.size + 2 ≤ w5.heap.size := by have := hb5.size; omega
          clear a1 a2 a3 a4 a5 a6 a7 a8 belw beln cv
          go_wp2
          obtain ⟨w6, hw6⟩ : ∃ w6, w6 = w5.alloc (.cells #[.int .i64 er, .int .i64 (a : Int)] 29) := ⟨_, rfl⟩
          rw [← hw6]
          have y1 : w6.cell? ⟨w5.heap.size, 0, none⟩ = some (.int .i64 er) := by rw [hw6, cell_of_row _ _ _ _ _ _ (heap_alloc_new _ _)]; rfl
          have y2 : w6.cell? ⟨w5.heap.size, 1, none⟩ = some (.int .i64 (a : Int)) := by rw [hw6, cell_of_row _ _ _ _ _ _ (heap_alloc_new _ _)]; rfl
          obtain ⟨⟨b1, b2, b3, b4⟩, b5, b6, b7, b8⟩ := cells.out w6 (by rw [hw6]; exact hb6.alloc (by omega) _)
          have bel7 := belx.out w6.drew (Below.drew (by rw [hw6]; exact bel5.alloc (by omega) _))
          obtain ⟨g, hg⟩ : ∃ g, g = w5.heap.size := ⟨_, rfl⟩
          rw [← hg] at y1 y2 ⊢
          have g1 : g ≠ w.heap.size := by omega
          have g2 : g ≠ w.heap.size + 1 := by omega
          have g3 : w.heap.size ≠ g := by omega
          have g4 : w.heap.size + 1 ≠ g := by omega
          replace bel7 := Lib.hid bel7
          clear hw6 hg hb6 bel5 hws5 hb5 hws hb belr bel0
          go_region
          all_goals
            go_wp2
            refine bodyPost_ret (v := .tuple #[.agg #[.string nm, .string ⟨#[]⟩], .int .i64 0, .agg #[.int .i64 er, .int .i64 (a : Int)]]) ?_ rfl ⟨⟨(nm, ⟨#[]⟩), rfl⟩, bel7.out _ _ _ _⟩
            rw [results_ctc rfl]
            go_simp
            try rfl
end Go.Proofs.YtgjcdhcbniholaaGreat.Rv
