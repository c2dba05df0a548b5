/- Lemmas for the laws of this seat, laid together of SnS, SnI. -/
import Derived.Test.YtpiegngjpnpohaaGreatL21
import Derived.Test.YtpiegngjpnpohaaGreatL28
import Derived.Test.YtpiegngjpnpohaaGreatL35

namespace Go.Proofs.YtpiegngjpnpohaaGreat.Sn
open Go.RowKit Go.Proofs.YtpiegngjpnpohaaGreat.La Go.Proofs.YtpiegngjpnpohaaGreat.Sl Go.Proofs.YtpiegngjpnpohaaGreat.Ck Go.Proofs.YtpiegngjpnpohaaGreat.Rc Go.Proofs.YtpiegngjpnpohaaGreat.Rk Go.Proofs.YtpiegngjpnpohaaGreat.Wi Go.Proofs.YtpiegngjpnpohaaGreat.Fb Go.Proofs.YtpiegngjpnpohaaGreat.Mg Go.Proofs.YtpiegngjpnpohaaGreat.St
set_option linter.unusedVariables false
structure RE (w0 W : World) (B0 B1 : Nat) (v : Vv) : Prop where
  plain : PlainV v
  lab : Rd w0 B0 2 v.d.A (labs v.d.l) v.d.l.length
  cnt : Cs w0 B0 v.CA v.cs ∨ ∃ c0, W.ownsRow B1 54 2 (.slice v.CA v.cs.length c0) v.cs.length (flat v.cs)
theorem RE.later {w0 W W' : World} {B0 B1 : Nat} {v : Vv} (h : RE w0 W B0 B1 v) (hb : Below W.heap.size W W') : RE w0 W' B0 B1 v :=
  ⟨h.plain, h.lab, h.cnt.imp id fun ⟨c0, ho⟩ => ⟨c0, own_later ho hb⟩⟩
theorem RE.set {w0 W : World} {B0 B1 b o : Nat} {v : Vv} (h : RE w0 W B0 B1 v) (hb : b < B1) (u : Value) : RE w0 (W.setCell ⟨b, o, none⟩ u) B0 B1 v :=
  ⟨h.plain, h.lab, h.cnt.imp id fun ⟨c0, ho⟩ => ⟨c0, own_set ho hb u⟩⟩
theorem RE.grown {w0 W W' : World} {B0 B1 b n s : Nat} {v : Vv} {u : Value} {xs : List Value} (h : RE w0 W B0 B1 v) (ho : W.ownsRow b 49 s u n xs) (hg : W.grownBy W' u.ownBlock) : RE w0 W' B0 B1 v :=
  ⟨h.plain, h.lab, h.cnt.imp id fun ⟨c0, h1⟩ => ⟨c0, h1.kept hg (own_apart h1 ho (by decide))⟩⟩
theorem RE.vat {w0 W : World} {B0 B1 : Nat} {v : Vv} (h : RE w0 W B0 B1 v) (hb : Below B0 w0 W) (hB : B0 ≤ W.heap.size) : VAt v W W.heap.size := by
  have p := h.plain
  refine ⟨⟨(h.lab.below hb).mono hB, p.cap, p.len, p.len2, p.name, p.help, p.texts, p.kind⟩, ?_, p.ccap, p.clen, p.tot, p.n, p.sm, p.mn, p.mx⟩
  rcases h.cnt with hc | ⟨c0, ho⟩
  · exact cs_mono (hc.below hb) hB
  · exact Mg.cs_of_own ho p.ok
theorem RE.of {w0 W : World} {B0 B1 : Nat} {v : Vv} (h : VAt v w0 B0) : RE w0 W B0 B1 v := ⟨h.plain, h.d.rd, .inl h.cs⟩
theorem RE.two {w0 W W' : World} {B0 B1 : Nat} {x y v : Vv} (h : TwoOut W W' x y v) (hx : VAt x w0 B0) (hB : B1 ≤ W.heap.size) : RE w0 W' B0 B1 v := by
  obtain ⟨e1, e2, e3⟩ := h.d
  obtain ⟨c0, ho⟩ := h.own
  exact ⟨h.plain, by rw [e1, e2]; exact hx.d.rd, .inr ⟨c0, own_base ho hB⟩⟩
structure RSt (w0 : World) (B0 g : Nat) (p r : Int) (L : List (Option Vv × Option Vv)) (k : Nat) (E : Int) (W : World) : Prop where
  below : Below B0 w0 W
  base : B0 ≤ g
  size : g < W.heap.size
  c0 : W.cell? ⟨g, 0, none⟩ = some (.int .i64 p)
  c2 : W.cell? ⟨g, 2, none⟩ = some (.int .u64 r)
  fro : W.frozen? ⟨g, 1, none⟩ = false
  out : ∃ A c us, W.cell? ⟨g, 1, none⟩ = some (.slice A k c) ∧ W.ownsRow (g + 1) 49 11 (.slice A k c) k (rows us) ∧ us.length = k ∧
    (E = 0 → ∀ i (h : i < us.length), RE w0 W B0 (g + 1) us[i] ∧ ∃ q, L[i]? = some q ∧ us[i].c = outP q)
theorem RSt.later {w0 W W' : World} {B0 g : Nat} {p r E : Int} {L : List (Option Vv × Option Vv)} {k : Nat} (h : RSt w0 B0 g p r L k E W) (hb : Below W.heap.size W W') : RSt w0 B0 g p r L k E W' := by
  have hB0 : B0 ≤ W.heap.size := by have := h.base; have := h.size; omega
  have hg : g < W.heap.size := h.size
  refine ⟨h.below.trans (hb.mono hB0), h.base, Nat.lt_of_lt_of_le h.size hb.size, kc hb hg h.c0, kc hb hg h.c2, fz hb hg h.fro, ?_⟩
  obtain ⟨A, c, us, h1, h2, h3, h4⟩ := h.out
  exact ⟨A, c, us, kc hb hg h1, own_later h2 hb, h3, fun e i hi => ⟨(h4 e i hi).1.later hb, (h4 e i hi).2⟩⟩
theorem RSt.wrong {w0 W : World} {B0 g : Nat} {p r E : Int} {L : List (Option Vv × Option Vv)} {k : Nat} (h : RSt w0 B0 g p r L k E W) {E' : Int} (hE : E ≠ 0 → E' ≠ 0) : RSt w0 B0 g p r L k E' W := by
  obtain ⟨A, c, us, h1, h2, h3, h4⟩ := h.out
  exact ⟨h.below, h.base, h.size, h.c0, h.c2, h.fro, A, c, us, h1, h2, h3, fun e => h4 (Decidable.not_not.1 fun h => hE h e)⟩
theorem RSt.push {w0 W W1 W4 : World} {B0 g : Nat} {p r E : Int} {L : List (Option Vv × Option Vv)} {k : Nat} {A A' : Option Addr} {c c' : Nat} {us : List Vv} {ob : Obj} (h : RSt w0 B0 g p r L k E W) (hb : Below W.heap.size W W1)
    (ho : W.ownsRow (g + 1) 49 11 (.slice A k c) k (rows us)) (hu : us.length = k)
    (hall : E = 0 → ∀ i (h : i < us.length), RE w0 W B0 (g + 1) us[i] ∧ ∃ q, L[i]? = some q ∧ us[i].c = outP q)
    {q : Option Vv × Option Vv} (hq : L[k]? = some q) {v : Vv} (hv : E = 0 → RE w0 W1 B0 (g + 1) v ∧ v.c = outP q)
    (hg : (W1.alloc ob).grownBy W4 (Value.slice A k c).ownBlock) (ho4 : W4.ownsRow (g + 1) 49 11 (.slice A' (k + 1) c') (k + 1) (rows us ++ v.row)) :
    RSt w0 B0 g p r L (k + 1) E (W4.setCell ⟨g, 1, none⟩ (.slice A' (k + 1) c')) := by
  have h1a : Below W1.heap.size W1 (W1.alloc ob) := (Below.refl _ _).alloc (Nat.le_refl _) _
  have hb2 : Below W.heap.size W (W1.alloc ob) := hb.trans (h1a.mono hb.size)
  have h' := h.later hb2
  have ho' := own_later ho hb2
  have hs := h'.size
  have hB := h'.base
  have hob : ∀ b, b < g + 1 → some b ≠ (Value.slice A k c).ownBlock := fun b hb e => by have := (ho.lt b e.symm).1; omega
  have hcell : ∀ {b o : Nat} {x : Value}, b < g + 1 → (W1.alloc ob).cell? ⟨b, o, none⟩ = some x → W4.cell? ⟨b, o, none⟩ = some x := fun hb hx => hg.cell hx (hob _ hb)
  have hfz : ∀ {b o : Nat}, b < g + 1 → (W1.alloc ob).frozen? ⟨b, o, none⟩ = false → W4.frozen? ⟨b, o, none⟩ = false := fun {b o} hb hx => by
    unfold World.frozen? at *
    rw [hg.block b (by omega) (hob b hb)]; exact hx
  have hn : ∀ o, o ≠ 1 → (⟨g, 1, none⟩ : Addr) ≠ ⟨g, o, none⟩ := fun o ho e => by injection e with _ e; omega
  have hsz := hg.size
  refine ⟨?_, hB, by simp; omega, ?_, ?_, ?_, ?_⟩
  · have h1 : Below B0 w0 W4 := h'.below.grown hg (by omega) (fun j hj => by have := (ho.lt j hj).1; omega)
    go_grown
  · rw [World.cell?_setCell_other _ _ _ _ (hn 0 (by omega))]; exact hcell (by omega) h'.c0
  · rw [World.cell?_setCell_other _ _ _ _ (hn 2 (by omega))]; exact hcell (by omega) h'.c2
  · simp [hfz (b := g) (o := 1) (by omega) h'.fro]
  · obtain ⟨A2, c2, us2, h1, _⟩ := h'.out
    have hc1 := hcell (b := g) (o := 1) (by omega) h1
    refine ⟨A', c', us ++ [v], by go_cell, own_set (by rw [rows_append]; simpa [rows] using ho4) (by omega) _, by simp [hu], fun e i hi => ?_⟩
    by_cases hik : i < us.length
    · obtain ⟨x1, x2⟩ := hall e i hik
      rw [List.getElem_append_left hik]
      exact ⟨((x1.later hb2).grown ho' hg).set (by omega) _, x2⟩
    · obtain rfl : i = k := by simp at hi; omega
      obtain ⟨x1, x2⟩ := hv e
      have e2 : (us ++ [v])[i] = v := by rw [List.getElem_append_right (by omega)]; simp
      rw [e2]
      exact ⟨((x1.later h1a).grown ho' hg).set (by omega) _, q, hq, x2⟩
theorem RSt.snap {w0 W : World} {B0 g : Nat} {p r : Int} {L : List (Option Vv × Option Vv)} (h : RSt w0 B0 g p r L L.length 0 W) (hp : -9223372036854775808 ≤ p ∧ p ≤ 9223372036854775807) (hr : 0 ≤ r ∧ r ≤ 18446744073709551615) (hl : L.length ≤ 140737488355328) :
    ∃ s : Ss, s.p = p ∧ s.r = r ∧ W.cell? ⟨g, 1, none⟩ = some (.slice s.A s.vs.length s.c) ∧ s.vs.map Vv.c = L.map outP ∧ ∀ (b : Nat) (x0 x1 x2 : Value), B0 ≤ b → b < g + 1 →
      SAt s (((W.setCell ⟨b, 0, none⟩ x0).setCell ⟨b, 1, none⟩ x1).setCell ⟨b, 2, none⟩ x2) (((W.setCell ⟨b, 0, none⟩ x0).setCell ⟨b, 1, none⟩ x1).setCell ⟨b, 2, none⟩ x2).heap.size := by
  obtain ⟨A, c, us, h1, h2, h3, h4⟩ := h.out
  have h4 := h4 rfl
  refine ⟨⟨p, A, c, us, r⟩, rfl, rfl, by dsimp only; rw [h3]; exact h1, ?_, fun b x0 x1 x2 hB0 hb => ?_⟩
  · dsimp only
    apply List.ext_getElem
    · simp [h3]
    · intro i hi1 hi2
      have hiu : i < us.length := by simpa using hi1
      have hiL : i < L.length := by simpa using hi2
      obtain ⟨_, q, e1, e2⟩ := h4 i hiu
      rw [List.getElem?_eq_getElem hiL] at e1
      cases e1
      simp [e2]
  · have ho : (((W.setCell ⟨b, 0, none⟩ x0).setCell ⟨b, 1, none⟩ x1).setCell ⟨b, 2, none⟩ x2).ownsRow (g + 1) 49 11 (.slice A L.length c) L.length (rows us) := own_set (own_set (own_set h2 hb x0) hb x1) hb x2
    have hbl : Below B0 w0 (((W.setCell ⟨b, 0, none⟩ x0).setCell ⟨b, 1, none⟩ x1).setCell ⟨b, 2, none⟩ x2) := by have := h.below; go_grown
    have hsz : B0 ≤ (((W.setCell ⟨b, 0, none⟩ x0).setCell ⟨b, 1, none⟩ x1).setCell ⟨b, 2, none⟩ x2).heap.size := by have := h.base; have := h.size; simp; omega
    have hv : ∀ v ∈ us, VAt v (((W.setCell ⟨b, 0, none⟩ x0).setCell ⟨b, 1, none⟩ x1).setCell ⟨b, 2, none⟩ x2) (((W.setCell ⟨b, 0, none⟩ x0).setCell ⟨b, 1, none⟩ x1).setCell ⟨b, 2, none⟩ x2).heap.size := fun v hv => by
      obtain ⟨i, hi, rfl⟩ := List.mem_iff_getElem.1 hv
      obtain ⟨e1, _⟩ := h4 i hi
      exact (((e1.set hb x0).set hb x1).set hb x2).vat hbl hsz
    obtain ⟨A2, c2, e, f1, f2, _⟩ := own_form ho
    cases e
    rw [← h3] at ho f1
    exact ⟨⟨Rd.of_own ho (fun g' hg => (ho.lt g'.block (by have hg' : A = some g' := hg; rw [hg']; rfl)).2), hv⟩, hp, f1, f2, by dsimp only; omega, hr⟩
end Go.Proofs.YtpiegngjpnpohaaGreat.Sn

namespace Go.Proofs.YtpiegngjpnpohaaGreat.Sn
open Go.RowKit Go.Proofs.YtpiegngjpnpohaaGreat.La Go.Proofs.YtpiegngjpnpohaaGreat.Sl Go.Proofs.YtpiegngjpnpohaaGreat.Ck Go.Proofs.YtpiegngjpnpohaaGreat.Rc Go.Proofs.YtpiegngjpnpohaaGreat.Rk Go.Proofs.YtpiegngjpnpohaaGreat.Wi Go.Proofs.YtpiegngjpnpohaaGreat.Fb Go.Proofs.YtpiegngjpnpohaaGreat.Mg Go.Proofs.YtpiegngjpnpohaaGreat.St
set_option linter.unusedVariables false
def unl (v u : Vv) : Bool := decide (v.d.name = u.d.name) && !alD v.d u.d
def unlR (vs us : List Vv) : Bool := vs.any fun v => us.any (unl v)
theorem unlR_eq (vs us : List Vv) : unlR vs us = unlikeB vs us := by
  unfold unlR unlikeB badV unl
  rw [Bool.eq_iff_iff]
  simp only [List.any_eq_true]
  constructor
  · rintro ⟨v, hv, u, hu, h⟩; exact ⟨u, hu, v, hv, h⟩
  · rintro ⟨u, hu, v, hv, h⟩; exact ⟨v, hv, u, hu, h⟩
set_option maxRecDepth 100000 in
set_option maxHeartbeats 2000000 in
theorem runlike_any (vs us : List Vv) (A B : Option Addr) (c k : Nat) (w : World) (ha : VsAt vs A w w.heap.size) (hb : VsAt us B w w.heap.size) (hla : vs.length ≤ 140737488355328) (hlb : us.length ≤ 140737488355328) :
    Calls Tryz.prog 60 #[.slice A vs.length c, .slice B us.length k] w fun e w' => e = .returned (.bool (unlikeB vs us)) ∧ Below w.heap.size w w' := by
  rw [← unlR_eq]
  obtain ⟨R, hR⟩ : ∃ R, R = unlR vs us := ⟨_, rfl⟩
  obtain ⟨n, hn⟩ : ∃ n, n = vs.length := ⟨_, rfl⟩
  obtain ⟨m, hm⟩ : ∃ m, m = us.length := ⟨_, rfl⟩
  rw [← hn] at hla
  rw [← hm] at hlb
  have hlaI : (n : Int) ≤ 140737488355328 := by omega
  have hlbI : (m : Int) ≤ 140737488355328 := by omega
  rw [← hR, ← hn, ← hm]
  clear hla hlb
  replace hn := Lib.hid hn
  replace hm := Lib.hid hm
  replace hR := Lib.hid hR
  replace ha := Lib.hid ha
  replace hb := Lib.hid hb
  go_enter Tryz.func60, Tryz.ntmps60
  go_wp2
  go_loopw [5] (fun v wr => ∃ i : Nat, v = .int .i64 (i : Int) ∧ i ≤ n ∧ Below w.heap.size w wr ∧ Hid (∀ j, j < i → ∀ x, vs[j]? = some x → us.any (unl x) = false)) (fun v _ => n - (intOf v).toNat)
  case atStart => exact ⟨0, rfl, Nat.zero_le _, Below.refl _ _, Lib.hid (fun j hj => absurd hj (by omega))⟩
  case round =>
    obtain ⟨i, rfl, hi, hw, hpre⟩ := hrel
    by_cases hlt : i < n
    · have hil : i < vs.length := by rw [← hn.out]; exact hlt
      have gI : (i : Int) < (n : Int) := by omega
      have gI0 : (0 : Int) ≤ (i : Int) := by omega
      obtain ⟨v, hv⟩ : ∃ v, v = vs[i] := ⟨_, rfl⟩
      replace hv := Lib.hid hv
      go_wp2
      go_loopw [6] (fun v wk => ∃ j : Nat, v = .int .i64 (j : Int) ∧ j ≤ m ∧ Below w.heap.size w wk ∧ Hid (∀ t, t < j → ∀ y, us[t]? = some y → unl vs[i] y = false)) (fun v _ => m - (intOf v).toNat)
      case atStart => exact ⟨0, rfl, Nat.zero_le _, hw, Lib.hid (fun j hj => absurd hj (by omega))⟩
      case round =>
        obtain ⟨j, rfl, hj, hwk, hprj⟩ := hrel
        by_cases hlt2 : j < m
        · have hjl : j < us.length := by rw [← hm.out]; exact hlt2
          have gJ : (j : Int) < (m : Int) := by omega
          have gJ0 : (0 : Int) ≤ (j : Int) := by omega
          obtain ⟨u, hu⟩ : ∃ u, u = us[j] := ⟨_, rfl⟩
          obtain ⟨b, off, hA, hbB, x0, x1, x2, x3, x4, x5, x6, x7, x8, x9, x10⟩ := (ha.out.below hwk).cells i hil
          obtain ⟨b2, off2, hB, hbB2, y0, y1, y2, y3, y4, y5, y6, y7, y8, y9, y10⟩ := (hb.out.below hwk).cells j hjl
          clear x4 x5 x6 x7 x8 x9 x10 y4 y5 y6 y7 y8 y9 y10
          rw [← hv.out] at x0 x1 x2 x3
          rw [← hu] at y0 y1 y2 y3
          subst hA hB
          replace hu := Lib.hid hu
          have hbw : b < wr.heap.size := by have := hwk.size; omega
          have hbw2 : b2 < wr.heap.size := by have := hwk.size; omega
          obtain ⟨lv, hlv⟩ : ∃ n, n = v.d.l.length := ⟨_, rfl⟩
          obtain ⟨lu, hlu⟩ : ∃ n, n = u.d.l.length := ⟨_, rfl⟩
          rw [← hlv] at x3
          rw [← hlu] at y3
          replace hlv := Lib.hid hlv
          replace hlu := Lib.hid hlu
          go_upto_region 7 with fail
          go_region_held3 (fun W => W.cell? ⟨b, off + i * 11, none⟩ = some (.int .i64 v.d.kind) ∧ W.cell? ⟨b, off + i * 11 + 1, none⟩ = some (.string v.d.name) ∧ W.cell? ⟨b, off + i * 11 + 2, none⟩ = some (.string v.d.help) ∧ W.cell? ⟨b, off + i * 11 + 3, none⟩ = some (.slice v.d.A lv v.d.c) ∧
            W.cell? ⟨b2, off2 + j * 11, none⟩ = some (.int .i64 u.d.kind) ∧ W.cell? ⟨b2, off2 + j * 11 + 1, none⟩ = some (.string u.d.name) ∧ W.cell? ⟨b2, off2 + j * 11 + 2, none⟩ = some (.string u.d.help) ∧ W.cell? ⟨b2, off2 + j * 11 + 3, none⟩ = some (.slice u.d.A lu u.d.c)) (first | exact ⟨x0, x1, x2, x3, y0, y1, y2, y3⟩ | go_keep) (first | fail)
          all_goals
            rename_i hHeld
            clear hHeld x0 x1 x2 x3 y0 y1 y2 y3
            have hun : unl v u = (decide (v.d.name = u.d.name) && !decide (v.d.kind = u.d.kind ∧ v.d.help = u.d.help)) := rfl
            have hgo : unl v u = false → Hid (∀ t, t < j + 1 → ∀ y, us[t]? = some y → unl vs[i] y = false) := fun e => Lib.hid fun t ht y hy => by
              by_cases et : t = j
              · subst et
                rw [List.getElem?_eq_getElem hjl, ← hu.out] at hy
                cases hy
                rw [← hv.out]; exact e
              · exact hprj.out t (by omega) y hy
            have hyes : unl v u = true → R = true := fun e => by
              rw [hR.out]
              unfold unlR
              rw [List.any_eq_true]
              refine ⟨v, by rw [hv.out]; exact List.getElem_mem hil, ?_⟩
              rw [List.any_eq_true]
              exact ⟨u, by rw [hu.out]; exact List.getElem_mem hjl, e⟩
            have hszk := hwk.size
            by_cases hnm : v.d.name = u.d.name
            · have hnm' : (v.d.name.toList == u.d.name.toList) = true := by rw [beqS]; exact decide_eq_true hnm
              by_cases hkd : v.d.kind = u.d.kind
              · have hkd' : (v.d.kind != u.d.kind) = false := by simpa using hkd
                by_cases hhp : v.d.help = u.d.help
                · have hhp' : (v.d.help.toList == u.d.help.toList) = true := by rw [beqS]; exact decide_eq_true hhp
                  replace hgo := hgo (by rw [hun, decide_eq_true (show v.d.kind = u.d.kind ∧ v.d.help = u.d.help from ⟨hkd, hhp⟩)]; simp)
                  clear hyes hun
                  replace hnm := Lib.hid hnm
                  replace hkd := Lib.hid hkd
                  replace hhp := Lib.hid hhp
                  go_wp2
                  exact ⟨⟨j + 1, by go_num, hlt2, by go_grown, hgo⟩, by simp [intOf]; omega⟩
                · have hhp' : (v.d.help.toList == u.d.help.toList) = false := by rw [beqS]; exact decide_eq_false hhp
                  obtain rfl := hyes (by rw [hun, decide_eq_true hnm, decide_eq_false (show ¬ (v.d.kind = u.d.kind ∧ v.d.help = u.d.help) from fun h => hhp h.2)]; rfl)
                  clear hgo hun
                  replace hnm := Lib.hid hnm
                  replace hkd := Lib.hid hkd
                  go_wp2
                  go_ret
                  exact ⟨rfl, by go_grown⟩
              · have hkd' : (v.d.kind != u.d.kind) = true := by simpa using hkd
                obtain rfl := hyes (by rw [hun, decide_eq_true hnm, decide_eq_false (show ¬ (v.d.kind = u.d.kind ∧ v.d.help = u.d.help) from fun h => hkd h.1)]; rfl)
                clear hgo hun
                replace hnm := Lib.hid hnm
                replace hkd := Lib.hid hkd
                go_wp2
                go_ret
                exact ⟨rfl, by go_grown⟩
            · have hnm' : (v.d.name.toList == u.d.name.toList) = false := by rw [beqS]; exact decide_eq_false hnm
              replace hgo := hgo (by rw [hun, decide_eq_false hnm]; rfl)
              clear hyes hun
              replace hnm := Lib.hid hnm
              go_wp2
              exact ⟨⟨j + 1, by go_num, hlt2, by go_grown, hgo⟩, by simp [intOf]; omega⟩
        · obtain rfl : j = m := by omega
          have hst : Hid (∀ t, t < i + 1 → ∀ x, vs[t]? = some x → us.any (unl x) = false) := Lib.hid fun t ht x hx => by
            by_cases et : t = i
            · subst et
              rw [List.getElem?_eq_getElem hil] at hx
              cases hx
              rw [List.any_eq_false]
              intro y hy
              obtain ⟨a, ha', rfl⟩ := List.mem_iff_getElem.1 hy
              have := hprj.out a (by rw [hm.out]; exact ha') _ (List.getElem?_eq_getElem ha')
              simp [this]
            · exact hpre.out t (by omega) x hx
          go_wp2
          exact ⟨⟨i + 1, by go_num, hlt, hwk, hst⟩, by simp [intOf]; omega⟩
    · obtain rfl : i = n := by omega
      have hr : R = false := by
        rw [hR.out]
        unfold unlR
        rw [List.any_eq_false]
        intro x hx
        obtain ⟨a, ha', rfl⟩ := List.mem_iff_getElem.1 hx
        have := hpre.out a (by rw [hn.out]; exact ha') _ (List.getElem?_eq_getElem ha')
        simp [this]
      subst hr
      go_wp2
      go_ret
      exact ⟨rfl, hw⟩
end Go.Proofs.YtpiegngjpnpohaaGreat.Sn
