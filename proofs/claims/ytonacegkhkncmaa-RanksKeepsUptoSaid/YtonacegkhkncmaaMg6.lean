/- The document's Merge. -/
import Derived.Test.YtonacegkhkncmaaMg4
import Derived.Test.YtonacegkhkncmaaMg5
namespace Go.Proofs.Ytonacegkhkncmaa.Mg
open Go.RowKit Go.Shelf Go.Sort Go.Proofs Go.Lib Go.Proofs.Ytonacegkhkncmaa.Sl Go.Proofs.Ytonacegkhkncmaa.Rk Go.Proofs.Ytonacegkhkncmaa.St
set_option linter.unusedVariables false

/-! Groups of one index, plain. -/
/-- No group goes over place k. -/
def Gap (L : List Cnt) (k : Nat) : Prop := ∀ r j v, clp (L.take k) = r ++ [(j, v)] → ∀ x, L[k]? = some x → j ≠ x.1
theorem Gap.zero (L : List Cnt) : Gap L 0 := fun r j v h => by simp [clp] at h
theorem clp_take {L : List Cnt} {m : Nat} {x : Cnt} (h : L[m]? = some x) : clp (L.take (m + 1)) = stp (clp (L.take m)) x := by
  obtain ⟨hm, e⟩ := List.getElem?_eq_some_iff.1 h
  rw [take_snoc hm, clp_snoc, e]
theorem Gap.first {L : List Cnt} {k : Nat} {x : Cnt} (g : Gap L k) (h : L[k]? = some x) : clp (L.take (k + 1)) = clp (L.take k) ++ [x] := by
  rw [clp_take h]
  rcases List.eq_nil_or_concat (clp (L.take k)) with e | ⟨r, d, e⟩
  · rw [e]; rfl
  · rw [List.concat_eq_append] at e
    rw [e, stp_other _ _ _ (g r d.1 d.2 e x h)]; simp
/-- Where a group stands: from k on, up to m; v so far. -/
structure Grp (L : List Cnt) (k m : Nat) (j v : Int) : Prop where
  le : k ≤ m
  ml : m ≤ L.length
  gap : Gap L k
  at_k : ∃ n, L[k]? = some (j, n)
  eq : clp (L.take m) = clp (L.take k) ++ (if k < m then [(j, v)] else [])
  v0 : m = k → v = 0
theorem Grp.start {L : List Cnt} {k : Nat} {x : Cnt} (g : Gap L k) (h : L[k]? = some x) : Grp L k k x.1 0 :=
  ⟨Nat.le_refl _, Nat.le_of_lt (List.getElem?_eq_some_iff.1 h).1, g, ⟨x.2, h⟩, by simp, fun _ => rfl⟩
theorem Grp.next {L : List Cnt} {k m : Nat} {j v n : Int} (g : Grp L k m j v) (h : L[m]? = some (j, n)) (hn : 0 ≤ n ∧ n < two64) : Grp L k (m + 1) j ((v + n) % two64) := by
  have hm := (List.getElem?_eq_some_iff.1 h).1
  refine ⟨by have := g.le; omega, hm, g.gap, g.at_k, ?_, fun e => by have := g.le; omega⟩
  rw [if_pos (by have := g.le; omega)]
  rcases Nat.lt_or_eq_of_le g.le with h1 | h1
  · rw [clp_take h, g.eq, if_pos h1, stp_same]
  · subst h1
    rw [g.gap.first h, g.v0 rfl]
    congr 3
    simp only [two64] at hn ⊢
    omega
theorem nz_append (a b : List Cnt) : nz (a ++ b) = nz a ++ nz b := by simp [nz]
theorem Grp.done {L : List Cnt} {k m : Nat} {j v : Int} (g : Grp L k m j v) (h : ∀ x, L[m]? = some x → j ≠ x.1) : k < m ∧ Gap L m ∧ nz (clp (L.take m)) = nz (clp (L.take k)) ++ (if v = 0 then [] else [(j, v)]) := by
  have hkm : k < m := by
    rcases Nat.lt_or_eq_of_le g.le with h1 | h1
    · exact h1
    · subst h1
      obtain ⟨n, hn⟩ := g.at_k
      exact absurd rfl (h _ hn)
  have e := g.eq
  rw [if_pos hkm] at e
  refine ⟨hkm, fun r j' v' e' x hx => ?_, ?_⟩
  · rw [e] at e'
    have := List.append_inj_right' e' rfl
    cases this
    exact h x hx
  · rw [e, nz_append]
    congr 1
    by_cases hv : v = 0
    · simp [nz, hv]
    · simp [nz, hv]
theorem Grp.rng {L : List Cnt} {k m : Nat} {j v : Int} (g : Grp L k m j v) (ho : okN L) : 0 ≤ v ∧ v < two64 := by
  rcases Nat.lt_or_eq_of_le g.le with h1 | h1
  · have e := g.eq
    rw [if_pos h1] at e
    exact okN_clp (L.take m) (fun c hc => ho c (List.mem_of_mem_take hc)) (j, v) (by rw [e]; simp)
  · rw [g.v0 h1.symm]; simp [two64]

theorem app_facts0 {W : World} {B2 : Nat} {s : Value} {n : Nat} {xs : List Value} (ho : W.ownsRow B2 55 2 s n xs) (hB : B2 ≤ W.heap.size) (nq : Nat) (x : Cnt) :
    Hid (((W.drewN nq).alloc (.cells #[.int .i64 x.1, .int .u64 x.2] 55)).ownsRow B2 55 2 s n xs ∧
      Rd ((W.drewN nq).alloc (.cells #[.int .i64 x.1, .int .u64 x.2] 55)) (W.heap.size + 1) 2 (some ⟨W.heap.size, 0, none⟩) (flat [x]) 1 ∧
      RowKit.Below B2 W ((W.drewN nq).alloc (.cells #[.int .i64 x.1, .int .u64 x.2] 55)) ∧ B2 ≤ ((W.drewN nq).alloc (.cells #[.int .i64 x.1, .int .u64 x.2] 55)).heap.size) := by
  have b : RowKit.Below B2 W ((W.drewN nq).alloc (.cells #[.int .i64 x.1, .int .u64 x.2] 55)) := (below_drewN (RowKit.Below.refl _ W) nq).alloc hB _
  refine ⟨World.ownsRow.alloc (w := W.drewN nq) ho _, ?_, b, Nat.le_trans hB b.size⟩
  exact Rd.new (W.drewN nq) (flat [x]) 55 2 1 rfl

set_option maxRecDepth 100000 in
set_option maxHeartbeats 4000000 in
theorem rmerge_any (w : World) (B : Nat) (A1 A2 : Option Addr) (a b : List Cnt) (c1 c2 : Nat) (h1 : Cs w B A1 a) (h2 : Cs w B A2 b) (hB : B ≤ w.heap.size) (hn : a.length + b.length ≤ 4194304) :
    Calls Try.prog 37 #[.slice A1 a.length c1, .slice A2 b.length c2] w (MrgPost w (mrg (a ++ b))) := by
  obtain ⟨i0, hi, hz0, hz1, hz2⟩ := info_parts infoCount
  have ha := rd_of_cs h1
  have hb := rd_of_cs h2
  have hok : Hid (∀ c ∈ a ++ b, okC c) := fun c hc => (List.mem_append.1 hc).elim (h1.ok c) (h2.ok c)
  have hl : (a ++ b).length ≤ 4194304 := by rw [List.length_append]; omega
  clear h1 h2
  have g1 : 0 + a.length ≤ maxLen := by unfold maxLen; omega
  have g2 : (0 + a.length) * 16 ≤ 140737488355328 := by omega
  have g3 : a.length + b.length ≤ maxLen := by unfold maxLen; omega
  have g4 : (a.length + b.length) * 16 ≤ 140737488355328 := by omega
  go_enter Try.func37, Try.ntmps37
  go_wp2_with (first | (at_builtin; refine wpList_append_rd rfl (.const (.slice none 0 0)) (.tmp 9) _ rfl w.heap.size 55 Try.underlying36 hi hz0 hz1 hz2 rfl (by decide) rfl (World.ownsRow_nil w _ _ _) rfl ha (flat_one _) g1 g2 (Nat.le_refl _) ?_; intro A3 k3 w1 ho1 hb1 hs1; have rb1 := hb.below (hb1.mono hB); simp only [Nat.zero_add, List.nil_append] at ho1) | (at_builtin; refine wpList_append_rd rfl (.tmp 11) (.tmp 12) _ rfl w.heap.size 55 Try.underlying36 hi hz0 hz1 hz2 rfl (by decide) rfl ho1 rfl rb1 (flat_one _) g3 g4 hs1 ?_; intro A4 k4 w2 ho2 hb2 hs2))
  have ho3 : w2.ownsRow w.heap.size 55 2 (.slice A4 (a ++ b).length k4) (a ++ b).length (flat (a ++ b)) := by rw [List.length_append, flat_append]; exact ho2
  have hbw2 := hb1.trans hb2
  clear ha hb rb1 ho1 ho2 hb1 hb2 hs1 hs2 g1 g2 g3 g4
  have eab : a.length + b.length = (a ++ b).length := by rw [List.length_append]
  rw [eab]
  clear eab
  generalize a ++ b = ab at *
  obtain ⟨_, _, x1, x2, x3, x4⟩ := own_form ho3
  cases x1
  have cs := sorted_any ab.length w2 w2.heap.size A4 ab k4 (Nat.le_refl _) (Rd.of_own ho3 fun g hg => (x4 g hg).2.1) x2 x3 (by omega) (Nat.le_refl _)
  clear x4 ho3 x2 x3
  replace cs := Lib.hid cs
  go_wp2_with fail
  refine cs.out.mono ?_
  rintro e w3 ⟨A, c, L, rfl, ho, hp, hs, hb3⟩
  clear cs
  have hlen : L.length = ab.length := hp.length_eq
  rw [← hlen] at hl ho ⊢
  have hokL : okN L := okC_okN fun c hc => hok.out c (hp.mem_iff.1 hc)
  have fin0 : mrg ab = nz (clp L) := (mrg_of hs hp (okC_okN hok.out)).symm
  have hbw3 : RowKit.Below w.heap.size w w3 := hbw2.trans (hb3.mono hbw2.size)
  obtain ⟨_, _, x1, x2, x3, x4⟩ := own_form ho
  cases x1
  have hr : Rd w3 w3.heap.size 2 A (flat L) L.length := Rd.of_own ho fun g hg => (x4 g hg).2.1
  obtain ⟨N, hN⟩ : ∃ N, N = L.length := ⟨_, rfl⟩
  rw [← hN] at hl hr ⊢
  obtain ⟨B2, hB2⟩ : ∃ B2, B2 = w3.heap.size := ⟨_, rfl⟩
  rw [← hB2] at hr
  have hwB : w.heap.size ≤ B2 := by rw [hB2]; exact hbw3.size
  have ho0 : (w3.alloc (.cells #[] 55)).ownsRow B2 55 2 (.slice (some ⟨w3.heap.size, 0, none⟩) 0 0) 0 (flat []) := World.ownsRow_lit w3 #[] 0 (by rw [hB2]; exact Nat.le_refl _) (by decide) rfl
  replace hB2 := Lib.hid hB2
  replace hN := Lib.hid hN
  replace fin0 := Lib.hid fin0
  replace hokL := Lib.hid hokL
  clear hlen hp hs hok hb3 hbw2 ho x2 x3 x4
  go_wp2
  go_loopg [6, 7] (N) (fun kx o i wr => ∃ (k : Nat) (A3 : Option Addr) (c3 : Nat) (os : List Cnt), k ≤ N ∧ N - k ≤ kx ∧ i = .int .i64 k ∧ o = .slice A3 os.length c3 ∧ wr.ownsRow B2 55 2 (.slice A3 os.length c3) os.length (flat os) ∧ RowKit.Below B2 w3 wr ∧ Hid (os = nz (clp (L.take k)) ∧ Gap L k))
  case atStart => exact ⟨0, _, _, [], Nat.zero_le _, by omega, rfl, rfl, ho0, (RowKit.Below.refl _ _).alloc (Nat.le_of_eq hB2.out) _, Lib.hid ⟨by simp [clp, nz], Gap.zero L⟩⟩
  case round =>
    clear ho0
    obtain ⟨k, A3, c3, os, hk, hkx, rfl, rfl, ho, hb, hos⟩ := hrel
    have hBr : B2 ≤ wr.heap.size := by rw [hB2.out]; exact hb.size
    by_cases hlt : k < N
    · obtain ⟨bb, off, rfl, hbB, hc⟩ := (hr.below hb).cells (by omega)
      have hkL : k < L.length := by rw [← hN.out]; exact hlt
      obtain ⟨x, hx⟩ : ∃ x, L[k]? = some x := ⟨_, List.getElem?_eq_getElem hkL⟩
      have k1 := hc _ _ (flat_get L k x hx).1
      have hG : Hid (Grp L k k x.1 0) := Grp.start hos.out.2 hx
      replace hos := Lib.hid hos.out.1
      obtain ⟨j, xn⟩ := x
      simp only at k1 hG
      clear hx hc
      obtain ⟨wo, rfl⟩ : ∃ wo : World, wo = wr := ⟨_, rfl⟩
      go_wp2_with fail
      go_loopg [7] (N - k) (fun ky i wz => ∃ (m : Nat) (v : Int) (n : Nat), m ≤ N ∧ N - m ≤ ky ∧ i = .int .i64 m ∧ wz = (wo.alloc (.cells #[.int .i64 j, .int .u64 v] 55)).drewN n ∧ Hid (Grp L k m j v))
      case atStart => exact ⟨k, 0, 0, hk, Nat.le_refl _, rfl, rfl, hG⟩
      case round =>
        clear hG k1
        obtain ⟨m, v, n, hm, hmx, rfl, hw, hg⟩ := hrel
        have hbz : RowKit.Below B2 wo wr := by rw [hw]; exact below_drewN ((RowKit.Below.refl _ _).alloc hBr _) n
        have hoz : wr.ownsRow B2 55 2 (.slice A3 os.length c3) os.length (flat os) := by rw [hw]; exact World.ownsRow.alloc ho _
        have hBz : B2 ≤ wr.heap.size := Nat.le_trans hBr hbz.size
        have q1 : wr.cell? ⟨wo.heap.size, 0, none⟩ = some (.int .i64 j) := by rw [hw, World.cell?_drewN, cell_new]; rfl
        have q2 : wr.cell? ⟨wo.heap.size, 1, none⟩ = some (.int .u64 v) := by rw [hw, World.cell?_drewN, cell_new]; rfl
        have hc := ((hr.below hb).below hbz).cells (by omega)
        obtain ⟨_, _, e, _, hc⟩ := hc
        cases e
        have hvr := hg.out.rng hokL.out
        simp only [two64] at hvr
        by_cases hin : ∃ n', L[m]? = some (j, n')
        · obtain ⟨n', hx⟩ := hin
          have hmN : m < N := by rw [hN.out]; exact (List.getElem?_eq_some_iff.1 hx).1
          obtain ⟨f1, f2⟩ := flat_get L m (j, n') hx
          have k1 := hc _ _ f1
          have k2 := hc _ _ f2
          rw [← Nat.add_assoc] at k2
          have hn' := hokL.out (j, n') (List.mem_of_getElem? hx)
          have hg2 := hg.out.next hx hn'
          replace hg2 := Lib.hid hg2
          have hd1 : decide (m < N) = true := decide_eq_true hmN
          have hjj : (j == j) = true := beq_self_eq_true _
          have hmI : (m : Int) < (N : Int) := by omega
          have q3 : wr.frozen? ⟨wo.heap.size, 1, none⟩ = false := by rw [hw]; simp
          simp only at k1 k2 hn'
          clear f1 f2 hx hc hg hvr
          have e3 : ∀ n2 v2, ((wr.drewN n2).setCell ⟨wo.heap.size, 1, none⟩ (.int .u64 v2)) = (wo.alloc (.cells #[.int .i64 j, .int .u64 v2] 55)).drewN (n + n2) := fun n2 v2 => by
            rw [hw, World.drewN_drewN]
            have e : ((wo.alloc (.cells #[.int .i64 j, .int .u64 v] 55)).setCell ⟨wo.heap.size, 1, none⟩ (.int .u64 v2)) = wo.alloc (.cells #[.int .i64 j, .int .u64 v2] 55) := by rw [World.setCell_alloc_new]; rfl
            rw [← e]; rfl
          replace hw := Lib.hid hw
          replace e3 := Lib.hid e3
          go_wp2_with fail
          go_quiet (fail)
          go_wp2_with fail
          go_region
          go_wp2_with fail
          have ew : IntKind.u64.wrap (v + n') = (v + n') % two64 := by rw [IntKind.wrap_u64]; rfl
          go_roundg (N - (m + 1))
          case measure => omega
          case rel => exact ⟨m + 1, (v + n') % two64, _, by omega, Nat.le_refl _, by go_num, by rw [ew]; exact e3.out _ _, hg2⟩
        · have hdone := hg.out.done (fun x hx e => hin ⟨x.2, by rw [hx, e]⟩)
          obtain ⟨hkm, hgap, hnz⟩ := hdone
          have hosl : os.length ≤ k := by
            rw [hos.out]
            have := nz_len (clp (L.take k)); have := clp_len (L.take k)
            rw [List.length_take] at this; omega
          have hmn : (∃ j' n' : Int, m < N ∧ j' ≠ j ∧ wr.cell? ⟨bb, off + m * 2, none⟩ = some (.int .i64 j')) ∨ ¬ m < N := by
            by_cases hmN : m < N
            · left
              obtain ⟨x, hx⟩ : ∃ x, L[m]? = some x := ⟨_, List.getElem?_eq_getElem (by rw [← hN.out]; exact hmN)⟩
              exact ⟨x.1, x.2, hmN, fun e => hin ⟨x.2, by rw [hx, ← e]⟩, hc _ _ (flat_get L m x hx).1⟩
            · exact .inr hmN
          have fin : v = 0 → Hid (os = nz (clp (L.take m)) ∧ Gap L m) := fun e => Lib.hid ⟨by rw [hnz, if_pos e, ← hos.out]; simp, hgap⟩
          have fin2 : v ≠ 0 → Hid (os ++ [(j, v)] = nz (clp (L.take m)) ∧ Gap L m) := fun e => Lib.hid ⟨by rw [hnz, if_neg e, ← hos.out], hgap⟩
          have g1 : os.length + 1 ≤ maxLen := by unfold maxLen; omega
          have g2 : (os.length + 1) * 16 ≤ 140737488355328 := by omega
          replace hnz := Lib.hid hnz
          replace hgap := Lib.hid hgap
          have hbb : RowKit.Below B2 w3 wr := hb.trans hbz
          clear hin hg hc hos hvr hb hbz
          replace hw := Lib.hid hw
          by_cases hv : v = 0
          · have f := fin hv
            have hv1 : (v != 0) = false := by rw [hv]; rfl
            have hv2 : (v == 0) = true := by rw [hv]; rfl
            replace hv := Lib.hid hv
            clear fin fin2
            rcases hmn with ⟨j', n', hmN, hjn, kj⟩ | hmN
            · have hd1 : decide (m < N) = true := decide_eq_true hmN
              have hd2 : (j' == j) = false := beq_eq_false_iff_ne.2 hjn
              have hmI : (m : Int) < (N : Int) := by omega
              replace hjn := Lib.hid hjn
              go_wp2_with fail
              go_quiet (fail)
              go_wp2_with fail
              go_roundg (N - m)
              case measure => omega
              case rel => exact ⟨m, A3, c3, os, hm, Nat.le_refl _, rfl, rfl, hoz, below_drewN hbb _, f⟩
            · have hd1 : decide (m < N) = false := decide_eq_false hmN
              go_wp2_with fail
              go_quiet (fail)
              go_wp2_with fail
              go_roundg (N - m)
              case measure => omega
              case rel => exact ⟨m, A3, c3, os, hm, Nat.le_refl _, rfl, rfl, hoz, below_drewN hbb _, f⟩
          · have f := fin2 hv
            have hv1 : (v != 0) = true := by simpa using hv
            have hv2 : (v == 0) = false := beq_eq_false_iff_ne.2 hv
            clear fin fin2
            replace hv := Lib.hid hv
            rcases hmn with ⟨j', n', hmN, hjn, kj⟩ | hmN
            · have hd1 : decide (m < N) = true := decide_eq_true hmN
              have hd2 : (j' == j) = false := beq_eq_false_iff_ne.2 hjn
              have hmI : (m : Int) < (N : Int) := by omega
              replace hjn := Lib.hid hjn
              go_wp2_with fail
              go_quiet (fail)
              have af := app_facts0 hoz hBz nq (j, v)
              go_wp2_with (at_builtin; refine wpList_append_rd rfl (.tmp 54) (.tmp 56) _ rfl B2 55 Try.underlying36 hi hz0 hz1 hz2 rfl (by decide) rfl af.out.1 rfl af.out.2.1 (flat_one _) g1 g2 af.out.2.2.2 ?_; intro A4 c4 w4 ho4 hb4 hs4)
              go_roundg (N - m)
              case measure => omega
              case rel => exact ⟨m, A4, c4, os ++ [(j, v)], hm, Nat.le_refl _, rfl, by simp, by simpa [flat] using ho4, hbb.trans (af.out.2.2.1.trans hb4), f⟩
            · have hd1 : decide (m < N) = false := decide_eq_false hmN
              go_wp2_with fail
              go_quiet (fail)
              have af := app_facts0 hoz hBz nq (j, v)
              go_wp2_with (at_builtin; refine wpList_append_rd rfl (.tmp 54) (.tmp 56) _ rfl B2 55 Try.underlying36 hi hz0 hz1 hz2 rfl (by decide) rfl af.out.1 rfl af.out.2.1 (flat_one _) g1 g2 af.out.2.2.2 ?_; intro A4 c4 w4 ho4 hb4 hs4)
              go_roundg (N - m)
              case measure => omega
              case rel => exact ⟨m, A4, c4, os ++ [(j, v)], hm, Nat.le_refl _, rfl, by simp, by simpa [flat] using ho4, hbb.trans (af.out.2.2.1.trans hb4), f⟩
    · have e : os = mrg ab := by rw [fin0.out, hos.out.1, List.take_of_length_le (by rw [← hN.out]; omega)]
      have fin : MrgPost w (mrg ab) (.returned (.slice A3 os.length c3)) wr := by
        rw [e] at ho ⊢
        exact ⟨A3, c3, rfl, own_base ho hwB, hbw3.trans (hb.mono hwB)⟩
      replace fin := Lib.hid fin
      replace e := Lib.hid e
      clear hos ho hb
      go_wp2
      go_ret
      exact fin.out
end Go.Proofs.Ytonacegkhkncmaa.Mg
