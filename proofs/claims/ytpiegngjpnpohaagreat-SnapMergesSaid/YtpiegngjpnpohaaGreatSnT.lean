/- The document's Merge: the walk. -/
import Derived.Test.YtpiegngjpnpohaaGreatL36
namespace Go.Proofs.YtpiegngjpnpohaaGreat.Sn
open Go.RowKit Go.Proofs.YtpiegngjpnpohaaGreat.La Go.Proofs.YtpiegngjpnpohaaGreat.Sl Go.Proofs.YtpiegngjpnpohaaGreat.Ck Go.Proofs.YtpiegngjpnpohaaGreat.Rc Go.Proofs.YtpiegngjpnpohaaGreat.Rk Go.Proofs.YtpiegngjpnpohaaGreat.Wi Go.Proofs.YtpiegngjpnpohaaGreat.Fb Go.Proofs.YtpiegngjpnpohaaGreat.Mg Go.Proofs.YtpiegngjpnpohaaGreat.St
set_option linter.unusedVariables false

theorem Blk.grown {w w' : World} {g : Nat} {cs : List Value} {row : Option Nat} (h : Blk w g cs) (hg : w.grownBy w' row) (hne : some g ≠ row) : Blk w' g cs :=
  ⟨Nat.lt_of_lt_of_le h.1 hg.size, fun j u hu => ⟨hg.cell (a := ⟨g, j, none⟩) (h.2 j u hu).1 hne, by
    have := (h.2 j u hu).2
    unfold World.frozen? at *
    rw [hg.block g h.1 hne]; exact this⟩⟩
theorem Bx3.grown {w W W' : World} {a b : Ss} {row : Option Nat} (h : Bx3 w a b W) (hg : W.grownBy W' row) (hr : ∀ k, row = some k → w.heap.size + 1 + 1 < k) : Bx3 w a b W' :=
  ⟨h.k1.grown hg (fun e => by have := hr _ e.symm; omega), h.k2.grown hg (fun e => by have := hr _ e.symm; omega), h.k3.grown hg (fun e => by have := hr _ e.symm; omega), h.below.grown hg h.below.size (fun j hj => by have := hr j hj; omega)⟩

/-- The head of a round: what is left of both lists. -/
structure Hd (a b : Ss) (i k j : Nat) : Prop where
  hi : i ≤ a.vs.length
  hk : k ≤ b.vs.length
  hj : j ≤ (mz a.vs b.vs).length
  drop : (mz a.vs b.vs).drop j = mz (a.vs.drop i) (b.vs.drop k)
theorem Hd.zero (a b : Ss) : Hd a b 0 0 0 := ⟨Nat.zero_le _, Nat.zero_le _, Nat.zero_le _, rfl⟩
/-- Which of both is next. -/
noncomputable def nxt (a b : Ss) (i k : Nat) : Int := if h : i < a.vs.length then (if h2 : k < b.vs.length then cmpD a.vs[i].d b.vs[k].d else -1) else 1
theorem nxt_both {a b : Ss} {i k : Nat} (h : i < a.vs.length) (h2 : k < b.vs.length) : nxt a b i k = cmpD a.vs[i].d b.vs[k].d := by unfold nxt; rw [dif_pos h, dif_pos h2]
theorem nxt_l {a b : Ss} {i k : Nat} (h : i < a.vs.length) (h2 : ¬ k < b.vs.length) : nxt a b i k = -1 := by unfold nxt; rw [dif_pos h, dif_neg h2]
theorem nxt_r {a b : Ss} {i k : Nat} (h : ¬ i < a.vs.length) : nxt a b i k = 1 := by unfold nxt; rw [dif_neg h]
theorem drop_next {α : Type} {l : List α} {j : Nat} {q : α} {r : List α} (h : l.drop j = q :: r) : l[j]? = some q ∧ l.drop (j + 1) = r ∧ j + 1 ≤ l.length := by
  have h2 : l[j]? = some q := by
    have := congrArg (·[0]?) h
    simpa using this
  refine ⟨h2, ?_, (List.getElem?_eq_some_iff.1 h2).1⟩
  have := congrArg (List.drop 1) h
  simpa [Nat.add_comm] using this
theorem Hd.left {a b : Ss} {i k j : Nat} (h : Hd a b i k j) (hi : i < a.vs.length) (hc : nxt a b i k < 0) : (mz a.vs b.vs)[j]? = some (some a.vs[i], none) ∧ Hd a b (i + 1) k (j + 1) := by
  have e : mz (a.vs.drop i) (b.vs.drop k) = (some a.vs[i], none) :: mz (a.vs.drop (i + 1)) (b.vs.drop k) := by
    rw [List.drop_eq_getElem_cons hi]
    refine mz_left ?_
    by_cases hk : k < b.vs.length
    · rw [nxt_both hi hk] at hc
      exact .inr ⟨b.vs[k], b.vs.drop (k + 1), List.drop_eq_getElem_cons hk, hc⟩
    · exact .inl (List.drop_eq_nil_of_le (by omega))
  have hd := h.drop
  rw [e] at hd
  obtain ⟨h1, h2, h3⟩ := drop_next hd
  exact ⟨h1, by omega, h.hk, h3, h2⟩
theorem Hd.right {a b : Ss} {i k j : Nat} (h : Hd a b i k j) (hk : k < b.vs.length) (hc : 0 < nxt a b i k) : (mz a.vs b.vs)[j]? = some (none, some b.vs[k]) ∧ Hd a b i (k + 1) (j + 1) := by
  have e : mz (a.vs.drop i) (b.vs.drop k) = (none, some b.vs[k]) :: mz (a.vs.drop i) (b.vs.drop (k + 1)) := by
    rw [List.drop_eq_getElem_cons hk]
    refine mz_right ?_
    by_cases hi : i < a.vs.length
    · rw [nxt_both hi hk] at hc
      exact .inr ⟨a.vs[i], a.vs.drop (i + 1), List.drop_eq_getElem_cons hi, hc⟩
    · exact .inl (List.drop_eq_nil_of_le (by omega))
  have hd := h.drop
  rw [e] at hd
  obtain ⟨h1, h2, h3⟩ := drop_next hd
  exact ⟨h1, h.hi, by omega, h3, h2⟩
theorem Hd.both {a b : Ss} {i k j : Nat} (h : Hd a b i k j) (hi : i < a.vs.length) (hk : k < b.vs.length) (hc : nxt a b i k = 0) : (mz a.vs b.vs)[j]? = some (some a.vs[i], some b.vs[k]) ∧ Hd a b (i + 1) (k + 1) (j + 1) := by
  have e : mz (a.vs.drop i) (b.vs.drop k) = (some a.vs[i], some b.vs[k]) :: mz (a.vs.drop (i + 1)) (b.vs.drop (k + 1)) := by
    rw [List.drop_eq_getElem_cons hi, List.drop_eq_getElem_cons hk]
    refine mz_both ?_
    rw [nxt_both hi hk] at hc
    exact hc
  have hd := h.drop
  rw [e] at hd
  obtain ⟨h1, h2, h3⟩ := drop_next hd
  exact ⟨h1, by omega, by omega, h3, h2⟩
theorem Hd.end {a b : Ss} {i k j : Nat} (h : Hd a b i k j) (hi : ¬ i < a.vs.length) (hk : ¬ k < b.vs.length) : j = (mz a.vs b.vs).length := by
  have hd := h.drop
  have e1 : a.vs.drop i = [] := List.drop_eq_nil_of_le (by omega)
  have e2 : b.vs.drop k = [] := List.drop_eq_nil_of_le (by omega)
  rw [e1, e2, mz_nilL, List.map_nil, List.drop_eq_nil_iff] at hd
  have := h.hj
  omega

/-- What comes out of the document's. -/
def RMrgP (a b : Ss) (w : World) (e : Ending) (w' : World) : Prop :=
  Below w.heap.size w w' ∧ ∃ s : Ss, e = .returned (.tuple #[s.v, .int .i64 (mrgE a b)]) ∧ SAt s w' w'.heap.size ∧ MrgC a b s

/-- The loop's state. -/
structure Lp (w : World) (a b : Ss) (g j : Nat) (E : Int) (W : World) : Prop where
  st : RSt w w.heap.size g a.p (IntKind.u64.wrap (a.r + b.r)) (mz a.vs b.vs) j E W
  bx : Bx3 w a b W
theorem Lp.later {w W W' : World} {a b : Ss} {g j : Nat} {E : Int} (h : Lp w a b g j E W) (hb : Below W.heap.size W W') : Lp w a b g j E W' := ⟨h.st.later hb, h.bx.later hb⟩
theorem Lp.push {w W W1 W4 : World} {a b : Ss} {g j : Nat} {E : Int} {A A' : Option Addr} {c c' : Nat} {us : List Vv} {ob : Obj} (hg2 : w.heap.size + 1 + 1 < g) (h : Lp w a b g j E W) (hb : Below W.heap.size W W1)
    (ho : W.ownsRow (g + 1) 49 11 (.slice A j c) j (rows us)) (hu : us.length = j)
    (hall : E = 0 → ∀ i (h : i < us.length), RE w W w.heap.size (g + 1) us[i] ∧ ∃ q, (mz a.vs b.vs)[i]? = some q ∧ us[i].c = outP q)
    {q : Option Vv × Option Vv} (hq : (mz a.vs b.vs)[j]? = some q) {v : Vv} (hv : E = 0 → RE w W1 w.heap.size (g + 1) v ∧ v.c = outP q)
    (hg : (W1.alloc ob).grownBy W4 (Value.slice A j c).ownBlock) (ho4 : W4.ownsRow (g + 1) 49 11 (.slice A' (j + 1) c') (j + 1) (rows us ++ v.row)) :
    Lp w a b g (j + 1) E (W4.setCell ⟨g, 1, none⟩ (.slice A' (j + 1) c')) := by
  have h1a : Below W1.heap.size W1 (W1.alloc ob) := (Below.refl _ _).alloc (Nat.le_refl _) _
  have hb2 : Below W.heap.size W (W1.alloc ob) := hb.trans (h1a.mono hb.size)
  exact ⟨h.st.push hb ho hu hall hq hv hg ho4, ((h.bx.later hb2).grown hg (fun k hk => by have := (ho.lt k hk).1; omega)).set hg2 _⟩

theorem RE.base {w0 W : World} {B0 B1 B2 : Nat} {v : Vv} (h : RE w0 W B0 B1 v) (k : B2 ≤ B1) : RE w0 W B0 B2 v := ⟨h.plain, h.lab, h.cnt.imp id fun ⟨c0, ho⟩ => ⟨c0, own_base ho k⟩⟩
theorem RE.st11 {w0 W : World} {B0 B1 b : Nat} {v : Vv} (h : RE w0 W B0 B1 v) (hb : b < B1) (x0 x1 x2 x3 x4 x5 x6 x7 x8 x9 x10 : Value) : RE w0 (((((((((((W.setCell ⟨b, 0, none⟩ x0).setCell ⟨b, 1, none⟩ x1).setCell ⟨b, 2, none⟩ x2).setCell ⟨b, 3, none⟩ x3).setCell ⟨b, 4, none⟩ x4).setCell ⟨b, 5, none⟩ x5).setCell ⟨b, 6, none⟩ x6).setCell ⟨b, 7, none⟩ x7).setCell ⟨b, 8, none⟩ x8).setCell ⟨b, 9, none⟩ x9).setCell ⟨b, 10, none⟩ x10) B0 B1 v :=
  ((((((((((h.set hb _).set hb _).set hb _).set hb _).set hb _).set hb _).set hb _).set hb _).set hb _).set hb _).set hb _

theorem firstE_one {L : List (Option Vv × Option Vv)} {j : Nat} {v : Vv} (h : L[j]? = some (some v, none) ∨ L[j]? = some (none, some v)) : firstE (L.take (j + 1)) = firstE (L.take j) := by
  rcases h with h | h <;> (rw [firstE_take h]; unfold errP; split <;> simp_all)

theorem ret45 {R : Ending → World → Prop} {l : List Value} {w : World} {g : Nat} {x0 x1 x2 : Value} {E : Int} (hp : l[4]? = some (.pointer (some ⟨g, 0, none⟩))) (hq : l[5]? = some (.int .i64 E)) (hb : Blk w g [x0, x1, x2])
    (hR : R (.returned (.tuple #[.agg #[x0, x1, x2], .int .i64 E])) w) : bodyPost Tryz.prog Tryz.f16 R .ret ⟨l.toArray, []⟩ w :=
  bodyPost_ret (retSE rfl (by simp [hp]) (by simp [hq]) hb) rfl hR
theorem wp_hide {P : Program} {c : Code} {K : Act → World → Prop} {Q : Exit → Act → World → Prop} {a : Act} {w : World} (h : ∀ KK : Act → World → Prop, (∀ a w, K a w → KK a w) → c.wp P (Exit.then KK Q) a w) : c.wp P (Exit.then K Q) a w := h K (fun _ _ h => h)
structure Kept (p : Prop) : Prop where out : p
theorem bodyPost_kept {P : Program} {fn : Func} {R : Ending → World → Prop} {e : Exit} {a : Act} {w : World} (h : Kept (bodyPost P fn R e a w)) : bodyPost P fn R e a w := h.out
theorem j1_max {j : Nat} (h : j ≤ 512) : j + 1 ≤ maxLen := Nat.le_trans (Nat.add_le_add_right h 1) (by decide)
theorem j1_bytes {j : Nat} (h : j ≤ 512) : (j + 1) * 136 ≤ 140737488355328 := Nat.le_trans (Nat.mul_le_mul_right 136 (Nat.add_le_add_right h 1)) (by decide)

set_option maxRecDepth 100000 in
set_option maxHeartbeats 4000000 in
theorem rmerge_any' (a b : Ss) (w : World) (ha : SAt a w w.heap.size) (hb : SAt b w w.heap.size) :
    Calls Tryz.prog 16 #[a.v, b.v] w (RMrgP a b w) := by
  have cka := fun (W : World) (k : Below w.heap.size w W) => rcheck_any a W ((ha.below k).mono k.size)
  have ckb := fun (W : World) (k : Below w.heap.size w W) => rcheck_any b W ((hb.below k).mono k.size)
  have cun := fun (W : World) (k : Below w.heap.size w W) => runlike_any a.vs b.vs a.A b.A a.c b.c W ((ha.vs.below k).mono k.size) ((hb.vs.below k).mono k.size) ha.len2 hb.len2
  have hE : mrgE a b = if (chkS a.p a.vs).1 ≠ 0 then (chkS a.p a.vs).1 else if (chkS b.p b.vs).1 ≠ 0 then (chkS b.p b.vs).1 else if a.p ≠ b.p ∨ unlikeB a.vs b.vs = true then 12
    else if 256 < (mz a.vs b.vs).length then 3 else if firstE (mz a.vs b.vs) ≠ 0 then firstE (mz a.vs b.vs) else if IntKind.u64.wrap (a.r + b.r) < a.r then 3 else 0 := rfl
  have hbad : mrgE a b ≠ 0 → ∀ (w' : World), Below w.heap.size w w' → RMrgP a b w (.returned (.tuple #[zeroS.v, .int .i64 (mrgE a b)])) w' := fun e w' hb => ⟨hb, zeroS, rfl, zeroS_at _ _, fun _ => rfl, fun h => absurd h e⟩
  have h3 := fun (w1 : World) (e : w1 = _) => Blk.triple (w := w) (w1 := w1) (cs := snC a) (ds := snC b) (es := zsn) (T := 25) (U := 25) (X := 25) e
  unfold snC zsn at h3
  obtain ⟨E, hEE⟩ : ∃ E, E = mrgE a b := ⟨_, rfl⟩
  obtain ⟨ea, hea⟩ : ∃ ea, ea = chkS a.p a.vs := ⟨_, rfl⟩
  obtain ⟨eb, heb⟩ : ∃ eb, eb = chkS b.p b.vs := ⟨_, rfl⟩
  rw [← hea] at cka
  rw [← heb] at ckb
  rw [← hea, ← heb, ← hEE] at hE
  rw [← hEE] at hbad
  obtain ⟨Pst, hPst⟩ : ∃ P, P = RMrgP a b w := ⟨_, rfl⟩
  rw [← hPst] at hbad ⊢
  unfold Ss.v at cka ckb ⊢
  obtain ⟨na, hna⟩ : ∃ n, n = a.vs.length := ⟨_, rfl⟩
  obtain ⟨nb, hnb⟩ : ∃ n, n = b.vs.length := ⟨_, rfl⟩
  rw [← hna] at cka h3 cun ⊢
  rw [← hnb] at ckb h3 cun ⊢
  obtain ⟨ea1, ea2⟩ := ea
  obtain ⟨eb1, eb2⟩ := eb
  obtain ⟨U, hU⟩ : ∃ U, U = unlikeB a.vs b.vs := ⟨_, rfl⟩
  rw [← hU] at cun hE
  dsimp only at cka ckb hE
  replace hU := Lib.hid hU
  replace hPst := Lib.hid hPst
  replace hE := Lib.hid hE
  replace hEE := Lib.hid hEE
  replace hbad := Lib.hid hbad
  replace cka := Lib.hid cka
  replace ckb := Lib.hid ckb
  replace cun := Lib.hid cun
  replace h3 := Lib.hid h3
  replace hea := Lib.hid hea
  replace heb := Lib.hid heb
  replace hna := Lib.hid hna
  replace hnb := Lib.hid hnb
  replace ha := Lib.hid ha
  replace hb := Lib.hid hb
  go_enter Tryz.func16, Tryz.ntmps16
  go_upto_region 1 with fail
  obtain ⟨w1, hw1⟩ : ∃ w1, w1 = (((w.alloc (.cells #[.int .i64 a.p, .slice a.A na a.c, .int .u64 a.r] 25)).alloc (.cells #[.int .i64 b.p, .slice b.A nb b.c, .int .u64 b.r] 25)).alloc (.cells #[.int .i64 0, .slice none 0 0, .int .u64 0] 25)) := ⟨_, rfl⟩
  rw [← hw1]
  obtain ⟨k1, k2, k3, hb1⟩ := h3.out w1 hw1
  clear hw1 h3
  have bx : Bx3 w a b w1 := ⟨by unfold snC; rw [← hna.out]; exact k1, by unfold snC; rw [← hnb.out]; exact k2, k3, hb1⟩
  have x0 := (k1.2 0 _ rfl).1
  have x1 := (k1.2 1 _ rfl).1
  have x2 := (k1.2 2 _ rfl).1
  replace bx := Lib.hid bx
  clear k1 k2 k3
  go_wp2_with fail
  refine (cka.out _ hb1).mono ?_
  rintro e w2 ⟨rfl, hb2⟩
  clear x0 x1 x2 cka
  have bx2 := bx.out.later hb2
  have hw2 := bx2.below
  have k3 := bx2.k3
  unfold zsn at k3
  by_cases hz1 : ea1 = 0
  · have g1 : (ea1 != 0) = false := by simpa using hz1
    have y0 := (bx2.k2.2 0 _ rfl).1
    have y1 := (bx2.k2.2 1 _ rfl).1
    have y2 := (bx2.k2.2 2 _ rfl).1
    rw [← hnb.out] at y1
    replace bx2 := Lib.hid bx2
    replace hz1 := Lib.hid hz1
    clear k3 bx
    go_wp2_with fail
    refine (ckb.out _ hw2).mono ?_
    rintro e w3 ⟨rfl, hb3⟩
    clear y0 y1 y2 ckb g1
    have bx3 := bx2.out.later hb3
    have hw3 := bx3.below
    have k3 := bx3.k3
    unfold zsn at k3
    clear bx2
    by_cases hz2 : eb1 = 0
    · have g1 : (eb1 != 0) = false := by simpa using hz2
      have x1 := (bx3.k1.2 1 _ rfl).1
      have y1 := (bx3.k2.2 1 _ rfl).1
      rw [← hna.out] at x1
      rw [← hnb.out] at y1
      replace bx3 := Lib.hid bx3
      replace hz2 := Lib.hid hz2
      clear k3
      go_wp2_with fail
      refine (cun.out _ hw3).mono ?_
      rintro e w4 ⟨rfl, hb4⟩
      clear x1 y1 cun g1
      have bx4 := bx3.out.later hb4
      have hw4 := bx4.below
      clear bx3
      have k3 := bx4.k3
      unfold zsn at k3
      have x0 := (bx4.k1.2 0 _ rfl).1
      have y0 := (bx4.k2.2 0 _ rfl).1
      by_cases hun : a.p ≠ b.p ∨ U = true
      · have hE4 : E = 12 := by rw [hE.out, hz1.out, hz2.out]; simp only [ne_eq, not_true_eq_false, if_false]; exact if_pos hun
        have hfin := hbad.out (by rw [hE4]; decide)
        rw [hE4] at hfin
        replace hfin := Lib.hid hfin
        replace hE4 := Lib.hid hE4
        have r0 := (k3.2 0 _ rfl).1
        have r1 := (k3.2 1 _ rfl).1
        have r2 := (k3.2 2 _ rfl).1
        have s0 := (k3.2 0 _ rfl).2
        have s1 := (k3.2 1 _ rfl).2
        have s2 := (k3.2 2 _ rfl).2
        have hway : (a.p != b.p) = true ∨ ((a.p != b.p) = false ∧ U = true) := by
          by_cases h : a.p = b.p
          · exact .inr ⟨by simp [h], hun.resolve_left (fun e => e h)⟩
          · exact .inl (by simpa using h)
        replace bx4 := Lib.hid bx4
        replace hU := Lib.hid hU
        clear hun
        rcases hway with hw | ⟨hw, rfl⟩
        all_goals
          go_wp2_with (with_reducible refine bodyPost_kept ?_)
          refine ⟨?_⟩
          refine ret45 rfl rfl (k3.st3 rfl _ _ _) ?_
          exact hfin.out _ (by have := hw4; go_grown)
      · have hpe : a.p = b.p := Decidable.not_not.1 fun h => hun (.inl h)
        have hUf : U = false := by cases U; rfl; exact absurd (.inr rfl) hun
        have gp : (a.p != b.p) = false := by simp [hpe]
        have hE1 := hE.out
        rw [hz1.out, hz2.out, if_neg (by decide), if_neg (by decide), if_neg hun] at hE1
        have hca : (chkS a.p a.vs).1 = 0 := by rw [← hea.out]; exact hz1.out
        have hcb : (chkS b.p b.vs).1 = 0 := by rw [← heb.out]; exact hz2.out
        obtain ⟨ga, la, ca⟩ := (chkS_ok _ _).1 hca
        obtain ⟨gb, lb, cb⟩ := (chkS_ok _ _).1 hcb
        have oka : ∀ v ∈ a.vs, OkV v := fun v hv => okV_of (ha.out.vs.all v hv).plain (ca.each v hv).1 (ca.each v hv).2
        have okb : ∀ v ∈ b.vs, OkV v := fun v hv => okV_of (hb.out.vs.all v hv).plain (cb.each v hv).1 (cb.each v hv).2
        have hlen := mz_len a.vs b.vs
        have hrr : 0 ≤ IntKind.u64.wrap (a.r + b.r) ∧ IntKind.u64.wrap (a.r + b.r) ≤ 18446744073709551615 := by rw [IntKind.wrap_u64]; omega
        have hmc : ∀ s : Ss, E = 0 → s.p = a.p → s.r = IntKind.u64.wrap (a.r + b.r) → s.vs.map Vv.c = (mz a.vs b.vs).map outP → MrgC a b s := fun s e h1 h2 h3 => ⟨fun h => absurd (hEE.out.symm.trans e) h, fun _ => ⟨h1, h2, h3⟩⟩
        have hp1 := ha.out.p
        rw [← hna.out] at la
        rw [← hnb.out] at lb
        have laI : (na : Int) ≤ 256 := by omega
        have lbI : (nb : Int) ≤ 256 := by omega
        have x2 := (bx4.k1.2 2 _ rfl).1
        have y2 := (bx4.k2.2 2 _ rfl).1
        have hg1 : w.heap.size + 1 + 1 < w4.heap.size := bx4.k3.1
        have hpp := fun (w5 : World) (e : w5 = _) => (show Blk w5 w4.heap.size [.int .i64 a.p, .slice none 0 0, .int .u64 (IntKind.u64.wrap (a.r + b.r))] by rw [e]; exact Blk.new w4 _ 25)
        replace hpp := Lib.hid hpp
        replace hmc := Lib.hid hmc
        replace hrr := Lib.hid hrr
        replace oka := Lib.hid oka
        replace okb := Lib.hid okb
        replace hE1 := Lib.hid hE1
        replace hp1 := Lib.hid hp1
        replace hpe := Lib.hid hpe
        replace hun := Lib.hid hun
        replace bx4 := Lib.hid bx4
        replace hlen := Lib.hid hlen
        subst hUf
        clear k3 hca hcb ga gb ca cb hE hea heb
        go_upto_region 11 with fail
        obtain ⟨w5, hw5⟩ : ∃ w5, w5 = w4.alloc (.cells #[.int .i64 a.p, .slice none 0 0, .int .u64 (IntKind.u64.wrap (a.r + b.r))] 25) := ⟨_, rfl⟩
        have hb5 : Below w4.heap.size w4 w5 := by rw [hw5]; exact (Below.refl _ _).alloc (Nat.le_refl _) _
        have j1 := hpp.out w5 hw5
        rw [← hw5]
        clear hw5 hpp x0 y0 x2 y2 gp
        have hL0 : Lp w a b w4.heap.size 0 0 w5 := ⟨⟨hw4.trans (hb5.mono hw4.size), hw4.size, j1.1, (j1.2 0 _ rfl).1, (j1.2 2 _ rfl).1, (j1.2 1 _ rfl).2, none, 0, [], (j1.2 1 _ rfl).1, own_nil _ _ _ _, rfl, fun _ i hi => absurd hi (by simp)⟩, bx4.out.later hb5⟩
        obtain ⟨g, hgd⟩ : ∃ g, g = w4.heap.size := ⟨_, rfl⟩
        rw [← hgd] at hL0 hg1 ⊢
        replace hL0 := Lib.hid hL0
        clear hgd j1 bx4 hb5 hb4 hw4 hb3 hw3 hb2 hw2 hb1
        have hHd0 := Lib.hid (Hd.zero a b)
        go_wp2
        go_loopw [10, 11, 12] (fun s10 s11 s12 wr => ∃ (j i k : Nat), s10 = .int .i64 (firstE ((mz a.vs b.vs).take j)) ∧ s11 = .int .i64 (i : Int) ∧ s12 = .int .i64 (k : Int) ∧ i ≤ na ∧ k ≤ nb ∧ Hid (Hd a b i k j) ∧ Hid (Lp w a b g j (firstE ((mz a.vs b.vs).take j)) wr)) (fun _ s11 s12 _ => (na - (intOf s11).toNat) + (nb - (intOf s12).toNat))
        case atStart => exact ⟨0, 0, 0, rfl, rfl, rfl, Nat.zero_le _, Nat.zero_le _, hHd0, hL0⟩
        case round =>
          clear hL0 hHd0
          obtain ⟨j, i, k, rfl, rfl, rfl, hi, hk, hHd, hLp⟩ := hrel
          obtain ⟨F, hF⟩ : ∃ F, F = firstE ((mz a.vs b.vs).take j) := ⟨_, rfl⟩
          rw [← hF] at hLp ⊢
          replace hF := Lib.hid hF
          refine wp_hide fun KK hKK => ?_
          replace hKK := Lib.hid hKK
          have xa := (hLp.out.bx.k1.2 1 _ rfl).1
          have ya := (hLp.out.bx.k2.2 1 _ rfl).1
          rw [← hna.out] at xa
          rw [← hnb.out] at ya
          obtain ⟨hif0, hif, hz0, hz1, hz2⟩ := info_parts infoVal
          obtain ⟨C, hC⟩ : ∃ C, C = nxt a b i k := ⟨_, rfl⟩
          replace hC := Lib.hid hC
          by_cases h1 : i < na
          · have d1 : decide (i < na) = true := decide_eq_true h1
            have e1 : ((i : Int) == (na : Int)) = false := by simp; omega
            by_cases h2 : k < nb
            · have e2 : ((k : Int) == (nb : Int)) = false := by simp; omega
              have hLz := hLp.out
              have h1' : i < a.vs.length := by rw [← hna.out]; exact h1
              obtain ⟨b1, oo1, hAl, hBl, x0, x1, x2, x3, x4, x5, x6, x7, x8, x9, x10⟩ := (ha.out.vs.below hLz.bx.below).cells i h1'
              rw [hAl] at xa
              clear hAl
              obtain ⟨x, hx⟩ : ∃ v, v = a.vs[i] := ⟨_, rfl⟩
              rw [← hx] at x0 x1 x2 x3 x4 x5 x6 x7 x8 x9 x10
              have vx : VAt x w w.heap.size := by rw [hx]; exact ha.out.vs.all _ (List.getElem_mem h1')
              have okx : OkV x := by rw [hx]; exact oka.out _ (List.getElem_mem h1')
              have gi : (i : Int) < (na : Int) := by omega
              have gi0 : (0 : Int) ≤ (i : Int) := by omega
              have h2' : k < b.vs.length := by rw [← hnb.out]; exact h2
              obtain ⟨b2, oo2, hAr, hBr, y0, y1, y2, y3, y4, y5, y6, y7, y8, y9, y10⟩ := (hb.out.vs.below hLz.bx.below).cells k h2'
              rw [hAr] at ya
              clear hAr
              obtain ⟨y, hy⟩ : ∃ v, v = b.vs[k] := ⟨_, rfl⟩
              rw [← hy] at y0 y1 y2 y3 y4 y5 y6 y7 y8 y9 y10
              have vy : VAt y w w.heap.size := by rw [hy]; exact hb.out.vs.all _ (List.getElem_mem h2')
              have oky : OkV y := by rw [hy]; exact okb.out _ (List.getElem_mem h2')
              have gk : (k : Int) < (nb : Int) := by omega
              have gk0 : (0 : Int) ≤ (k : Int) := by omega
              have ccm := fun (W : World) (kk : Below wr.heap.size wr W) => DAt.rcmp (((vx.d.below hLz.bx.below).mono hLz.bx.below.size)) (((vy.d.below hLz.bx.below).mono hLz.bx.below.size)) (Nat.le_refl _) kk
              have hnx := nxt_both h1' h2'
              rw [← hx, ← hy] at hnx
              rw [← hnx, ← hC.out] at ccm
              unfold DD.v at ccm
              have hb1w : b1 < wr.heap.size := by have := hLz.bx.below.size; omega
              have hb2w : b2 < wr.heap.size := by have := hLz.bx.below.size; omega
              have hs1w := hLz.bx.k1.1
              have hs2w := hLz.bx.k2.1
              replace hnx := Lib.hid hnx
              replace ccm := Lib.hid ccm
              replace hx := Lib.hid hx
              replace hy := Lib.hid hy
              replace vx := Lib.hid vx
              replace vy := Lib.hid vy
              replace okx := Lib.hid okx
              replace oky := Lib.hid oky
              replace hLz := Lib.hid hLz
              go_upto_region 19 with fail
              refine Reg.region_below (by kernel_rfl) (by kernel_rfl) ?_
              intro Sx _ f hf hs
              have xa' := Reg.keepc hf hs1w xa
              have ya' := Reg.keepc hf hs2w ya
              have p0 := Reg.keepc hf hb1w x0
              have r0 := Reg.keepc hf hb2w y0
              have p1 := Reg.keepc hf hb1w x1
              have r1 := Reg.keepc hf hb2w y1
              have p2 := Reg.keepc hf hb1w x2
              have r2 := Reg.keepc hf hb2w y2
              have p3 := Reg.keepc hf hb1w x3
              have r3 := Reg.keepc hf hb2w y3
              clear xa ya x0 y0 x1 y1 x2 y2 x3 y3 x4 y4 x5 y5 x6 y6 x7 y7 x8 y8 x9 y9 x10 y10
              repeat (go_big_quiet_step ((go_at_call 51; with_reducible exact Reg.met hs (ccm.out _ (hf _)))))
              refine wpQuiet_nil ?_
              intro s
              have hbz := hf s
              have hLz := hLp.out.later hbz
              obtain ⟨wz, hwz⟩ : ∃ wz, wz = f s := ⟨_, rfl⟩
              rw [← hwz] at hLz ⊢
              clear hwz hbz hf hs xa' ya' p0 p1 p2 p3 r0 r1 r2 r3 hLp hnx ccm hx hy vx vy okx oky hb1w hb2w hs1w hs2w hBl hBr gi gi0 gk gk0
              have xa := (hLz.bx.k1.2 1 _ rfl).1
              have ya := (hLz.bx.k2.2 1 _ rfl).1
              rw [← hna.out] at xa
              rw [← hnb.out] at ya
              have htri : C < 0 ∨ 0 < C ∨ C = 0 := by omega
              rcases htri with hc0 | hc0 | hc0
              · have hc : nxt a b i k < 0 := by rw [← hC.out]; exact hc0
                have h1' : i < a.vs.length := by rw [← hna.out]; exact h1
                obtain ⟨b1, oo1, hAl, hBl, x0, x1, x2, x3, x4, x5, x6, x7, x8, x9, x10⟩ := (ha.out.vs.below hLz.bx.below).cells i h1'
                rw [hAl] at xa
                clear hAl
                obtain ⟨x, hx⟩ : ∃ v, v = a.vs[i] := ⟨_, rfl⟩
                rw [← hx] at x0 x1 x2 x3 x4 x5 x6 x7 x8 x9 x10
                have vx : VAt x w w.heap.size := by rw [hx]; exact ha.out.vs.all _ (List.getElem_mem h1')
                have okx : OkV x := by rw [hx]; exact oka.out _ (List.getElem_mem h1')
                have gi : (i : Int) < (na : Int) := by omega
                have gi0 : (0 : Int) ≤ (i : Int) := by omega
                have hjl := hHd.out.hj
                have hj5 : j ≤ 512 := by have := hlen.out; have := hna.out; have := hnb.out; omega
                obtain ⟨A, c, us, q1, q2, q3, q4⟩ := hLz.st.out
                have qf := hLz.st.fro
                have hsz := hLz.st.size
                obtain ⟨hq, hHd2⟩ := hHd.out.left h1' hc
                rw [← hx] at hq
                have hF2 : firstE ((mz a.vs b.vs).take (j + 1)) = F := (firstE_one (.inl hq)).trans hF.out.symm
                have qb := fun ob => (World.cell?_alloc_some wz ⟨g, 1, none⟩ ob (by rw [q1]; rfl)).trans q1
                have q2b := fun ob => own_later (q2.alloc ob) (below_drewN (Below.refl _ _) 1)
                have rdx := (Rd.new wz x.row 49 11 1 rfl).below (below_drewN (Below.refl _ _) 1)
                have happ : ∀ (ob : Obj) (W4 : World), ((wz.alloc ob).drewN 1).grownBy W4 (Value.slice A j c).ownBlock → W4.cell? ⟨g, 1, none⟩ = some (.slice A j c) ∧ W4.frozen? ⟨g, 1, none⟩ = false := fun ob W4 hg4 => by
                  have hne : some g ≠ (Value.slice A j c).ownBlock := fun e => by have := (q2.lt g e.symm).1; omega
                  refine ⟨hg4.cell (a := ⟨g, 1, none⟩) (qb ob) hne, ?_⟩
                  have hf2 := fz ((Below.refl wz.heap.size wz).alloc (Nat.le_refl _) ob) hsz qf
                  unfold World.frozen? at *
                  rw [hg4.block g (show g < (wz.alloc ob).heap.size by simp; omega) hne]; exact hf2
                replace hq := Lib.hid hq
                replace hHd2 := Lib.hid hHd2
                replace hF2 := Lib.hid hF2
                replace hx := Lib.hid hx
                replace vx := Lib.hid vx
                replace okx := Lib.hid okx
                replace happ := Lib.hid happ
                replace q2b := Lib.hid q2b
                replace rdx := Lib.hid rdx
                replace q3 := Lib.hid q3
                replace q4 := Lib.hid q4
                replace hLz := Lib.hid hLz
                have dc : decide (C < 0) = true := decide_eq_true hc0
                go_upto_region 27 with fail
                go_region_law ((refine step_append_rd (v := .slice A j c) (n := j) (c := 1) (m := 1) rfl (.tmp 122) (.tmp 128) _ rfl (g + 1) 49 Tryz.underlying22 hif hz0 hz1 hz2 rfl (by decide) (by kernel_rfl) (q2b.out _) (by kernel_rfl) (ys := x.row) ⟨_, rdx.out⟩ (row_one x) (j1_max hj5) (j1_bytes hj5) (by simp; omega) ?_; intro A4 c4 W4 ho4 hg4 hs4; obtain ⟨q4c, f4c⟩ := happ.out _ _ hg4))
                all_goals
                  have hg5 : ((wz.drewN 1).alloc _).grownBy W4 (Value.slice A j c).ownBlock := hg4
                  have hfin := Lp.push hg1 hLz.out (W1 := wz.drewN 1) (below_drewN (Below.refl _ _) 1) q2 q3.out q4.out hq.out (v := x) (fun _ => ⟨RE.of vx.out, rfl⟩) hg5 ho4
                  clear hg4 hg5 hs4 happ q2b rdx qb x0 x1 x2 x3 x4 x5 x6 x7 x8 x9 x10
                  replace hfin := Lib.hid hfin
                  go_wp2
                  refine hKK.out _ _ ?_
                  exact ⟨⟨_, _, _, _, _, _, _, _, _, _, _, _, _, _, _, _, _, _, _, _, _, _, _, _, _, _, _, _, _, _, _, _, _, _, _, _, _, _, _, _, _, _, _, _, _, _, _, _, _, _, _, _, _, _, _, _, _, _, _, _, _, _, _, _, _, _, _, _, _, _, _, _, _, _, _, _, _, _, _, _, _, _, _, _, _, _, _, _, _, _, _, _, _, _, _, _, _, _, ⟨j + 1, i + 1, k, by rw [hF2.out], by go_num, rfl, h1, hk, hHd2, Lib.hid (by rw [hF2.out]; exact hfin.out)⟩, rfl⟩, by simp [intOf]; omega⟩
              · have hc : 0 < nxt a b i k := by rw [← hC.out]; exact hc0
                have h2' : k < b.vs.length := by rw [← hnb.out]; exact h2
                obtain ⟨b2, oo2, hAr, hBr, y0, y1, y2, y3, y4, y5, y6, y7, y8, y9, y10⟩ := (hb.out.vs.below hLz.bx.below).cells k h2'
                rw [hAr] at ya
                clear hAr
                obtain ⟨y, hy⟩ : ∃ v, v = b.vs[k] := ⟨_, rfl⟩
                rw [← hy] at y0 y1 y2 y3 y4 y5 y6 y7 y8 y9 y10
                have vy : VAt y w w.heap.size := by rw [hy]; exact hb.out.vs.all _ (List.getElem_mem h2')
                have oky : OkV y := by rw [hy]; exact okb.out _ (List.getElem_mem h2')
                have gk : (k : Int) < (nb : Int) := by omega
                have gk0 : (0 : Int) ≤ (k : Int) := by omega
                have hjl := hHd.out.hj
                have hj5 : j ≤ 512 := by have := hlen.out; have := hna.out; have := hnb.out; omega
                obtain ⟨A, c, us, q1, q2, q3, q4⟩ := hLz.st.out
                have qf := hLz.st.fro
                have hsz := hLz.st.size
                obtain ⟨hq, hHd2⟩ := hHd.out.right h2' hc
                rw [← hy] at hq
                have hF2 : firstE ((mz a.vs b.vs).take (j + 1)) = F := (firstE_one (.inr hq)).trans hF.out.symm
                have qb := fun ob => (World.cell?_alloc_some wz ⟨g, 1, none⟩ ob (by rw [q1]; rfl)).trans q1
                have q2b := fun ob => own_later (q2.alloc ob) (below_drewN (Below.refl _ _) 1)
                have rdx := (Rd.new wz y.row 49 11 1 rfl).below (below_drewN (Below.refl _ _) 1)
                have happ : ∀ (ob : Obj) (W4 : World), ((wz.alloc ob).drewN 1).grownBy W4 (Value.slice A j c).ownBlock → W4.cell? ⟨g, 1, none⟩ = some (.slice A j c) ∧ W4.frozen? ⟨g, 1, none⟩ = false := fun ob W4 hg4 => by
                  have hne : some g ≠ (Value.slice A j c).ownBlock := fun e => by have := (q2.lt g e.symm).1; omega
                  refine ⟨hg4.cell (a := ⟨g, 1, none⟩) (qb ob) hne, ?_⟩
                  have hf2 := fz ((Below.refl wz.heap.size wz).alloc (Nat.le_refl _) ob) hsz qf
                  unfold World.frozen? at *
                  rw [hg4.block g (show g < (wz.alloc ob).heap.size by simp; omega) hne]; exact hf2
                replace hq := Lib.hid hq
                replace hHd2 := Lib.hid hHd2
                replace hF2 := Lib.hid hF2
                replace hy := Lib.hid hy
                replace vy := Lib.hid vy
                replace oky := Lib.hid oky
                replace happ := Lib.hid happ
                replace q2b := Lib.hid q2b
                replace rdx := Lib.hid rdx
                replace q3 := Lib.hid q3
                replace q4 := Lib.hid q4
                replace hLz := Lib.hid hLz
                have dc : decide (C < 0) = false := decide_eq_false (by omega)
                have dc2 : decide (0 < C) = true := decide_eq_true hc0
                go_upto_region 30 with fail
                go_region_law ((refine step_append_rd (v := .slice A j c) (n := j) (c := 1) (m := 1) rfl (.tmp 137) (.tmp 143) _ rfl (g + 1) 49 Tryz.underlying22 hif hz0 hz1 hz2 rfl (by decide) (by kernel_rfl) (q2b.out _) (by kernel_rfl) (ys := y.row) ⟨_, rdx.out⟩ (row_one y) (j1_max hj5) (j1_bytes hj5) (by simp; omega) ?_; intro A4 c4 W4 ho4 hg4 hs4; obtain ⟨q4c, f4c⟩ := happ.out _ _ hg4))
                all_goals
                  have hg5 : ((wz.drewN 1).alloc _).grownBy W4 (Value.slice A j c).ownBlock := hg4
                  have hfin := Lp.push hg1 hLz.out (W1 := wz.drewN 1) (below_drewN (Below.refl _ _) 1) q2 q3.out q4.out hq.out (v := y) (fun _ => ⟨RE.of vy.out, rfl⟩) hg5 ho4
                  clear hg4 hg5 hs4 happ q2b rdx qb y0 y1 y2 y3 y4 y5 y6 y7 y8 y9 y10
                  replace hfin := Lib.hid hfin
                  go_wp2
                  refine hKK.out _ _ ?_
                  exact ⟨⟨_, _, _, _, _, _, _, _, _, _, _, _, _, _, _, _, _, _, _, _, _, _, _, _, _, _, _, _, _, _, _, _, _, _, _, _, _, _, _, _, _, _, _, _, _, _, _, _, _, _, _, _, _, _, _, _, _, _, _, _, _, _, _, _, _, _, _, _, _, _, _, _, _, _, _, _, _, _, _, _, _, _, _, _, _, _, _, _, _, _, _, _, _, _, _, _, _, _, ⟨j + 1, i, k + 1, by rw [hF2.out], rfl, by go_num, hi, h2, hHd2, Lib.hid (by rw [hF2.out]; exact hfin.out)⟩, rfl⟩, by simp [intOf]; omega⟩
              · have hc : nxt a b i k = 0 := by rw [← hC.out]; exact hc0
                subst hc0
                have h1' : i < a.vs.length := by rw [← hna.out]; exact h1
                obtain ⟨b1, oo1, hAl, hBl, x0, x1, x2, x3, x4, x5, x6, x7, x8, x9, x10⟩ := (ha.out.vs.below hLz.bx.below).cells i h1'
                rw [hAl] at xa
                clear hAl
                obtain ⟨x, hx⟩ : ∃ v, v = a.vs[i] := ⟨_, rfl⟩
                rw [← hx] at x0 x1 x2 x3 x4 x5 x6 x7 x8 x9 x10
                have vx : VAt x w w.heap.size := by rw [hx]; exact ha.out.vs.all _ (List.getElem_mem h1')
                have okx : OkV x := by rw [hx]; exact oka.out _ (List.getElem_mem h1')
                have gi : (i : Int) < (na : Int) := by omega
                have gi0 : (0 : Int) ≤ (i : Int) := by omega
                have h2' : k < b.vs.length := by rw [← hnb.out]; exact h2
                obtain ⟨b2, oo2, hAr, hBr, y0, y1, y2, y3, y4, y5, y6, y7, y8, y9, y10⟩ := (hb.out.vs.below hLz.bx.below).cells k h2'
                rw [hAr] at ya
                clear hAr
                obtain ⟨y, hy⟩ : ∃ v, v = b.vs[k] := ⟨_, rfl⟩
                rw [← hy] at y0 y1 y2 y3 y4 y5 y6 y7 y8 y9 y10
                have vy : VAt y w w.heap.size := by rw [hy]; exact hb.out.vs.all _ (List.getElem_mem h2')
                have oky : OkV y := by rw [hy]; exact okb.out _ (List.getElem_mem h2')
                have gk : (k : Int) < (nb : Int) := by omega
                have gk0 : (0 : Int) ≤ (k : Int) := by omega
                have hjl := hHd.out.hj
                have hj5 : j ≤ 512 := by have := hlen.out; have := hna.out; have := hnb.out; omega
                obtain ⟨A, c, us, q1, q2, q3, q4⟩ := hLz.st.out
                have qf := hLz.st.fro
                have hsz := hLz.st.size
                obtain ⟨hq, hHd2⟩ := hHd.out.both h1' h2' hc
                rw [← hx, ← hy] at hq
                have vxz : VAt x wz wz.heap.size := (vx.below hLz.bx.below).mono hLz.bx.below.size
                have vyz : VAt y wz wz.heap.size := (vy.below hLz.bx.below).mono hLz.bx.below.size
                have ctw := fun (W : World) (kk : Below wz.heap.size wz W) => rtwo_any x y W ((vxz.below kk).mono kk.size) ((vyz.below kk).mono kk.size) okx oky
                unfold Vv.v at ctw
                obtain ⟨E2, hE2⟩ : ∃ E2, E2 = twoE x.c y.c := ⟨_, rfl⟩
                rw [← hE2] at ctw
                have hF2 : firstE ((mz a.vs b.vs).take (j + 1)) = if F = 0 then E2 else F := by rw [firstE_take hq, ← hF.out, hE2]; rfl
                obtain ⟨F3, hF3⟩ : ∃ F3, F3 = firstE ((mz a.vs b.vs).take (j + 1)) := ⟨_, rfl⟩
                rw [← hF3] at hF2
                have hb1w : b1 < wz.heap.size := by have := hLz.bx.below.size; omega
                have hb2w : b2 < wz.heap.size := by have := hLz.bx.below.size; omega
                have hs1w := hLz.bx.k1.1
                have hs2w := hLz.bx.k2.1
                have hS : ∀ Wx, Below wz.heap.size wz Wx → (Wx.cell? ⟨w.heap.size, 1, none⟩ = some (.slice (some ⟨b1, oo1, none⟩) na a.c) ∧ Wx.cell? ⟨w.heap.size + 1, 1, none⟩ = some (.slice (some ⟨b2, oo2, none⟩) nb b.c) ∧ Wx.cell? ⟨b1, oo1 + i * 11, none⟩ = some (.int .i64 x.d.kind) ∧ Wx.cell? ⟨b1, oo1 + i * 11 + 1, none⟩ = some (.string x.d.name) ∧ Wx.cell? ⟨b1, oo1 + i * 11 + 2, none⟩ = some (.string x.d.help) ∧ Wx.cell? ⟨b1, oo1 + i * 11 + 3, none⟩ = some (.slice x.d.A x.d.l.length x.d.c) ∧ Wx.cell? ⟨b1, oo1 + i * 11 + 4, none⟩ = some (.int .i64 (hiI x.t)) ∧ Wx.cell? ⟨b1, oo1 + i * 11 + 5, none⟩ = some (.int .u64 (loI x.t)) ∧ Wx.cell? ⟨b1, oo1 + i * 11 + 6, none⟩ = some (.slice x.CA x.cs.length x.cc) ∧ Wx.cell? ⟨b1, oo1 + i * 11 + 7, none⟩ = some (.int .u64 x.n) ∧ Wx.cell? ⟨b1, oo1 + i * 11 + 8, none⟩ = some (.float .f64 x.sm) ∧ Wx.cell? ⟨b1, oo1 + i * 11 + 9, none⟩ = some (.float .f64 x.mn) ∧ Wx.cell? ⟨b1, oo1 + i * 11 + 10, none⟩ = some (.float .f64 x.mx) ∧ Wx.cell? ⟨b2, oo2 + k * 11, none⟩ = some (.int .i64 y.d.kind) ∧ Wx.cell? ⟨b2, oo2 + k * 11 + 1, none⟩ = some (.string y.d.name) ∧ Wx.cell? ⟨b2, oo2 + k * 11 + 2, none⟩ = some (.string y.d.help) ∧ Wx.cell? ⟨b2, oo2 + k * 11 + 3, none⟩ = some (.slice y.d.A y.d.l.length y.d.c) ∧ Wx.cell? ⟨b2, oo2 + k * 11 + 4, none⟩ = some (.int .i64 (hiI y.t)) ∧ Wx.cell? ⟨b2, oo2 + k * 11 + 5, none⟩ = some (.int .u64 (loI y.t)) ∧ Wx.cell? ⟨b2, oo2 + k * 11 + 6, none⟩ = some (.slice y.CA y.cs.length y.cc) ∧ Wx.cell? ⟨b2, oo2 + k * 11 + 7, none⟩ = some (.int .u64 y.n) ∧ Wx.cell? ⟨b2, oo2 + k * 11 + 8, none⟩ = some (.float .f64 y.sm) ∧ Wx.cell? ⟨b2, oo2 + k * 11 + 9, none⟩ = some (.float .f64 y.mn) ∧ Wx.cell? ⟨b2, oo2 + k * 11 + 10, none⟩ = some (.float .f64 y.mx)) := fun Wx hb => ⟨kc hb hs1w xa, kc hb hs2w ya, kc hb hb1w x0, kc hb hb1w x1, kc hb hb1w x2, kc hb hb1w x3, kc hb hb1w x4, kc hb hb1w x5, kc hb hb1w x6, kc hb hb1w x7, kc hb hb1w x8, kc hb hb1w x9, kc hb hb1w x10, kc hb hb2w y0, kc hb hb2w y1, kc hb hb2w y2, kc hb hb2w y3, kc hb hb2w y4, kc hb hb2w y5, kc hb hb2w y6, kc hb hb2w y7, kc hb hb2w y8, kc hb hb2w y9, kc hb hb2w y10⟩
                have hsf := fun (a : Addr) (x : Nat) (W : World) => run_store Tryz.prog W a (.float .f64 x) .plain rfl
                have hr0 : Below wz.heap.size wz wz.drew := below_drewN (Below.refl _ _) 1
                have hr1 : Below wz.heap.size wz (wz.alloc (.cells #[.int .i64 0, .string ⟨#[]⟩, .string ⟨#[]⟩, .slice none 0 0, .int .i64 0, .int .u64 0, .slice none 0 0, .int .u64 0, .float .f64 0, .float .f64 0, .float .f64 0] 49)).drew := below_drewN ((Below.refl _ _).alloc (Nat.le_refl _) _) 1
                have hz0' : Blk (wz.alloc (.cells #[.int .i64 0, .string ⟨#[]⟩, .string ⟨#[]⟩, .slice none 0 0, .int .i64 0, .int .u64 0, .slice none 0 0, .int .u64 0, .float .f64 0, .float .f64 0, .float .f64 0] 49)).drew wz.heap.size [.int .i64 0, .string ⟨#[]⟩, .string ⟨#[]⟩, .slice none 0 0, .int .i64 0, .int .u64 0, .slice none 0 0, .int .u64 0, .float .f64 0, .float .f64 0, .float .f64 0] := (Blk.new wz [.int .i64 0, .string ⟨#[]⟩, .string ⟨#[]⟩, .slice none 0 0, .int .i64 0, .int .u64 0, .slice none 0 0, .int .u64 0, .float .f64 0, .float .f64 0, .float .f64 0] 49).later (below_drewN (Below.refl _ _) 1)
                replace hz0' := Lib.hid hz0'
                replace hS := Lib.hid hS
                replace hq := Lib.hid hq
                replace hHd2 := Lib.hid hHd2
                replace hF2 := Lib.hid hF2
                replace hF3 := Lib.hid hF3
                replace hE2 := Lib.hid hE2
                replace hx := Lib.hid hx
                replace hy := Lib.hid hy
                replace vx := Lib.hid vx
                replace vy := Lib.hid vy
                replace vxz := Lib.hid vxz
                replace vyz := Lib.hid vyz
                replace okx := Lib.hid okx
                replace oky := Lib.hid oky
                replace q3 := Lib.hid q3
                replace q4 := Lib.hid q4
                replace hLz := Lib.hid hLz
                replace ctw := Lib.hid ctw
                go_upto_region 20 with fail
                go_region_held3 (fun Wx => Wx.cell? ⟨w.heap.size, 1, none⟩ = some (.slice (some ⟨b1, oo1, none⟩) na a.c) ∧ Wx.cell? ⟨w.heap.size + 1, 1, none⟩ = some (.slice (some ⟨b2, oo2, none⟩) nb b.c) ∧ Wx.cell? ⟨b1, oo1 + i * 11, none⟩ = some (.int .i64 x.d.kind) ∧ Wx.cell? ⟨b1, oo1 + i * 11 + 1, none⟩ = some (.string x.d.name) ∧ Wx.cell? ⟨b1, oo1 + i * 11 + 2, none⟩ = some (.string x.d.help) ∧ Wx.cell? ⟨b1, oo1 + i * 11 + 3, none⟩ = some (.slice x.d.A x.d.l.length x.d.c) ∧ Wx.cell? ⟨b1, oo1 + i * 11 + 4, none⟩ = some (.int .i64 (hiI x.t)) ∧ Wx.cell? ⟨b1, oo1 + i * 11 + 5, none⟩ = some (.int .u64 (loI x.t)) ∧ Wx.cell? ⟨b1, oo1 + i * 11 + 6, none⟩ = some (.slice x.CA x.cs.length x.cc) ∧ Wx.cell? ⟨b1, oo1 + i * 11 + 7, none⟩ = some (.int .u64 x.n) ∧ Wx.cell? ⟨b1, oo1 + i * 11 + 8, none⟩ = some (.float .f64 x.sm) ∧ Wx.cell? ⟨b1, oo1 + i * 11 + 9, none⟩ = some (.float .f64 x.mn) ∧ Wx.cell? ⟨b1, oo1 + i * 11 + 10, none⟩ = some (.float .f64 x.mx) ∧ Wx.cell? ⟨b2, oo2 + k * 11, none⟩ = some (.int .i64 y.d.kind) ∧ Wx.cell? ⟨b2, oo2 + k * 11 + 1, none⟩ = some (.string y.d.name) ∧ Wx.cell? ⟨b2, oo2 + k * 11 + 2, none⟩ = some (.string y.d.help) ∧ Wx.cell? ⟨b2, oo2 + k * 11 + 3, none⟩ = some (.slice y.d.A y.d.l.length y.d.c) ∧ Wx.cell? ⟨b2, oo2 + k * 11 + 4, none⟩ = some (.int .i64 (hiI y.t)) ∧ Wx.cell? ⟨b2, oo2 + k * 11 + 5, none⟩ = some (.int .u64 (loI y.t)) ∧ Wx.cell? ⟨b2, oo2 + k * 11 + 6, none⟩ = some (.slice y.CA y.cs.length y.cc) ∧ Wx.cell? ⟨b2, oo2 + k * 11 + 7, none⟩ = some (.int .u64 y.n) ∧ Wx.cell? ⟨b2, oo2 + k * 11 + 8, none⟩ = some (.float .f64 y.sm) ∧ Wx.cell? ⟨b2, oo2 + k * 11 + 9, none⟩ = some (.float .f64 y.mn) ∧ Wx.cell? ⟨b2, oo2 + k * 11 + 10, none⟩ = some (.float .f64 y.mx))
                  (first | (with_reducible exact hS.out _ hbw1) | (with_reducible exact hS.out _ (hbn _)) | (with_reducible exact hS.out _ hr1) | (with_reducible exact hS.out _ hr0) | (refine hS.out _ ?_; clear xa ya x0 y0 x1 y1 x2 y2 x3 y3 x4 y4 x5 y5 x6 y6 x7 y7 x8 y8 x9 y9 x10 y10; go_grown))
                  (first | (go_at_call 61; refine (ctw.out _ hr0).mono ?_; rintro e W1 ⟨hb1, v', rfl, hnv⟩; unfold Vv.v; have hbw1 := hr0.trans (hb1.mono (Nat.le_refl _)); have hbn := fun ob => hbw1.alloc hbw1.size ob; replace hnv := Lib.hid hnv) | (go_at_call 61; refine (ctw.out _ hr1).mono ?_; rintro e W1 ⟨hb1, v', rfl, hnv⟩; unfold Vv.v; have hbw1 := hr1.trans (hb1.mono (by simp)); have kz := hz0'.out.later hb1; have r0 := (kz.2 0 _ rfl).1; have s0 := (kz.2 0 _ rfl).2; have r1 := (kz.2 1 _ rfl).1; have s1 := (kz.2 1 _ rfl).2; have r2 := (kz.2 2 _ rfl).1; have s2 := (kz.2 2 _ rfl).2; have r3 := (kz.2 3 _ rfl).1; have s3 := (kz.2 3 _ rfl).2; have r4 := (kz.2 4 _ rfl).1; have s4 := (kz.2 4 _ rfl).2; have r5 := (kz.2 5 _ rfl).1; have s5 := (kz.2 5 _ rfl).2; have r6 := (kz.2 6 _ rfl).1; have s6 := (kz.2 6 _ rfl).2; have r7 := (kz.2 7 _ rfl).1; have s7 := (kz.2 7 _ rfl).2; have r8 := (kz.2 8 _ rfl).1; have s8 := (kz.2 8 _ rfl).2; have r9 := (kz.2 9 _ rfl).1; have s9 := (kz.2 9 _ rfl).2; have r10 := (kz.2 10 _ rfl).1; have s10 := (kz.2 10 _ rfl).2; replace hnv := Lib.hid hnv))
                · skip
                  obtain ⟨wv, hwv⟩ : ∃ W, W = W1.alloc (.cells #[.int .i64 v'.d.kind, .string v'.d.name, .string v'.d.help, .slice v'.d.A v'.d.l.length v'.d.c, .int .i64 (hiI v'.t), .int .u64 (loI v'.t), .slice v'.CA v'.cs.length v'.cc, .int .u64 v'.n, .float .f64 v'.sm, .float .f64 v'.mn, .float .f64 v'.mx] 49) := ⟨_, rfl⟩
                  rw [← hwv]
                  have hbx : Below wz.heap.size wz wv := by rw [hwv]; exact hbn _
                  have kv : Blk wv W1.heap.size v'.row := by rw [hwv]; exact Blk.new W1 v'.row 49
                  have hv' : Hid (E2 = 0 → RE w wv w.heap.size (g + 1) v' ∧ v'.c = outP (some x, some y)) := Lib.hid (fun e => by rw [hwv]; exact ⟨(RE.two (hnv.out e) vx.out (by have := hsz; exact this)).later ((Below.refl _ _).alloc (Nat.le_refl _) _), (hnv.out e).c⟩)
                  clear hwv hbn hbw1 hb1
                  have hLc := hLz.out.later hbx
                  have L3 : Lp w a b g j F3 wv := ⟨hLc.st.wrong (fun h => by rw [hF2.out, if_neg h]; exact h), hLc.bx⟩
                  have hv3 : F3 = 0 → RE w wv w.heap.size (g + 1) v' ∧ v'.c = outP (some x, some y) := fun e => hv'.out (by rw [hF2.out] at e; by_cases h : F = 0; rw [if_pos h] at e; exact e; rw [if_neg h] at e; exact absurd e h)
                  have hbg : g < wv.heap.size := hLc.st.size
                  clear q1 qf hsz q2 q3 q4 hLc hLz hS hr0 hr1 hz0' xa ya hsf ctw x0 x1 x2 x3 x4 x5 x6 x7 x8 x9 x10 y0 y1 y2 y3 y4 y5 y6 y7 y8 y9 y10
                  obtain ⟨A, c, us, q1, q2, q3, q4⟩ := L3.st.out
                  have hfz := L3.st.fro
                  have hsz := L3.st.size
                  have x0 := (kv.2 0 _ rfl).1
                  have x1 := (kv.2 1 _ rfl).1
                  have x2 := (kv.2 2 _ rfl).1
                  have x3 := (kv.2 3 _ rfl).1
                  have x4 := (kv.2 4 _ rfl).1
                  have x5 := (kv.2 5 _ rfl).1
                  have x6 := (kv.2 6 _ rfl).1
                  have x7 := (kv.2 7 _ rfl).1
                  have x8 := (kv.2 8 _ rfl).1
                  have x9 := (kv.2 9 _ rfl).1
                  have x10 := (kv.2 10 _ rfl).1
                  replace L3 := Lib.hid L3
                  replace hv3 := Lib.hid hv3
                  replace q3 := Lib.hid q3
                  replace q4 := Lib.hid q4
                  replace kv := Lib.hid kv
                  clear hE2
                  by_cases hF0 : F = 0
                  · have gF : (F == 0) = true := by simp [hF0]
                    have e3 : F3 = E2 := by rw [hF2.out, if_pos hF0]
                    replace e3 := Lib.hid e3
                    replace hF0 := Lib.hid hF0
                    replace hF2 := Lib.hid hF2
                    go_wp2_with (at_builtin; refine wpList_append_rg rfl (.tmp 109) (.tmp 111) _ rfl (g + 1) 49 Tryz.underlying22 hif hz0 hz1 hz2 rfl (by decide) rfl (q2.alloc _) rfl (Rd.new wv v'.row 49 11 1 rfl) (row_one v') (j1_max hj5) (j1_bytes hj5) (by simp; omega) ?_; intro A4 c4 W4 ho4 hg4 hob4; have hfin := Lp.push hg1 L3.out (Below.refl _ _) q2 q3.out q4.out hq.out (v := v') (fun e => hv3.out e) hg4 ho4; replace hfin := Lib.hid hfin; have q4c : W4.cell? ⟨g, 1, none⟩ = some (.slice A j c) := hg4.cell (a := ⟨g, 1, none⟩) (by rw [World.cell?_alloc_some _ _ _ (by rw [q1]; rfl)]; exact q1) (fun e => by have := (q2.lt g e.symm).1; omega); have f4c : W4.frozen? ⟨g, 1, none⟩ = false := by (have hl := (show g < (wv.alloc (Obj.cells v'.row.toArray 49)).heap.size by simp; omega); unfold World.frozen?; rw [hg4.block g hl (fun e => by have := (q2.lt g e.symm).1; omega)]; exact (frozen?_alloc_cells _ _ _ _).trans hfz))
                    refine hKK.out _ _ ?_
                    exact ⟨⟨_, _, _, _, _, _, _, _, _, _, _, _, _, _, _, _, _, _, _, _, _, _, _, _, _, _, _, _, _, _, _, _, _, _, _, _, _, _, _, _, _, _, _, _, _, _, _, _, _, _, _, _, _, _, _, _, _, _, _, _, _, _, _, _, _, _, _, _, _, _, _, _, _, _, _, _, _, _, _, _, _, _, _, _, _, _, _, _, _, _, _, _, _, _, _, _, _, _, ⟨j + 1, i + 1, k + 1, by rw [← hF3.out, e3.out], by go_num, by go_num, h1, h2, hHd2, Lib.hid (by rw [← hF3.out]; exact hfin.out)⟩, rfl⟩, by simp [intOf]; omega⟩
                  · have gF : (F == 0) = false := by simpa using hF0
                    have e3 : F3 = F := by rw [hF2.out, if_neg hF0]
                    replace e3 := Lib.hid e3
                    replace hF0 := Lib.hid hF0
                    replace hF2 := Lib.hid hF2
                    go_wp2_with (at_builtin; refine wpList_append_rg rfl (.tmp 109) (.tmp 111) _ rfl (g + 1) 49 Tryz.underlying22 hif hz0 hz1 hz2 rfl (by decide) rfl (q2.alloc _) rfl (Rd.new wv v'.row 49 11 1 rfl) (row_one v') (j1_max hj5) (j1_bytes hj5) (by simp; omega) ?_; intro A4 c4 W4 ho4 hg4 hob4; have hfin := Lp.push hg1 L3.out (Below.refl _ _) q2 q3.out q4.out hq.out (v := v') (fun e => hv3.out e) hg4 ho4; replace hfin := Lib.hid hfin; have q4c : W4.cell? ⟨g, 1, none⟩ = some (.slice A j c) := hg4.cell (a := ⟨g, 1, none⟩) (by rw [World.cell?_alloc_some _ _ _ (by rw [q1]; rfl)]; exact q1) (fun e => by have := (q2.lt g e.symm).1; omega); have f4c : W4.frozen? ⟨g, 1, none⟩ = false := by (have hl := (show g < (wv.alloc (Obj.cells v'.row.toArray 49)).heap.size by simp; omega); unfold World.frozen?; rw [hg4.block g hl (fun e => by have := (q2.lt g e.symm).1; omega)]; exact (frozen?_alloc_cells _ _ _ _).trans hfz))
                    refine hKK.out _ _ ?_
                    exact ⟨⟨_, _, _, _, _, _, _, _, _, _, _, _, _, _, _, _, _, _, _, _, _, _, _, _, _, _, _, _, _, _, _, _, _, _, _, _, _, _, _, _, _, _, _, _, _, _, _, _, _, _, _, _, _, _, _, _, _, _, _, _, _, _, _, _, _, _, _, _, _, _, _, _, _, _, _, _, _, _, _, _, _, _, _, _, _, _, _, _, _, _, _, _, _, _, _, _, _, _, ⟨j + 1, i + 1, k + 1, by rw [← hF3.out, e3.out], by go_num, by go_num, h1, h2, hHd2, Lib.hid (by rw [← hF3.out]; exact hfin.out)⟩, rfl⟩, by simp [intOf]; omega⟩
                · skip
                  obtain ⟨wv, hwv⟩ : ∃ W, W = (((((((((((W1.setCell ⟨wz.heap.size, 0, none⟩ (.int .i64 v'.d.kind)).setCell ⟨wz.heap.size, 1, none⟩ (.string v'.d.name)).setCell ⟨wz.heap.size, 2, none⟩ (.string v'.d.help)).setCell ⟨wz.heap.size, 3, none⟩ (.slice v'.d.A v'.d.l.length v'.d.c)).setCell ⟨wz.heap.size, 4, none⟩ (.int .i64 (hiI v'.t))).setCell ⟨wz.heap.size, 5, none⟩ (.int .u64 (loI v'.t))).setCell ⟨wz.heap.size, 6, none⟩ (.slice v'.CA v'.cs.length v'.cc)).setCell ⟨wz.heap.size, 7, none⟩ (.int .u64 v'.n)).setCell ⟨wz.heap.size, 8, none⟩ (.float .f64 v'.sm)).setCell ⟨wz.heap.size, 9, none⟩ (.float .f64 v'.mn)).setCell ⟨wz.heap.size, 10, none⟩ (.float .f64 v'.mx)) := ⟨_, rfl⟩
                  rw [← hwv]
                  have hbx : Below wz.heap.size wz wv := by rw [hwv]; exact below_st11 hbw1 (Nat.le_refl _) _ _ _ _ _ _ _ _ _ _ _
                  have kv : Blk wv wz.heap.size v'.row := by rw [hwv]; exact kz.st11 rfl _ _ _ _ _ _ _ _ _ _ _
                  have hv' : Hid (E2 = 0 → RE w wv w.heap.size (g + 1) v' ∧ v'.c = outP (some x, some y)) := Lib.hid (fun e => by rw [hwv]; exact ⟨(RE.st11 (RE.two (B1 := wz.heap.size + 1) (hnv.out e) vx.out (by simp)) (by omega) _ _ _ _ _ _ _ _ _ _ _).base (by omega), (hnv.out e).c⟩)
                  clear hwv hbw1 hb1 kz r0 s0 r1 s1 r2 s2 r3 s3 r4 s4 r5 s5 r6 s6 r7 s7 r8 s8 r9 s9 r10 s10
                  have hLc := hLz.out.later hbx
                  have L3 : Lp w a b g j F3 wv := ⟨hLc.st.wrong (fun h => by rw [hF2.out, if_neg h]; exact h), hLc.bx⟩
                  have hv3 : F3 = 0 → RE w wv w.heap.size (g + 1) v' ∧ v'.c = outP (some x, some y) := fun e => hv'.out (by rw [hF2.out] at e; by_cases h : F = 0; rw [if_pos h] at e; exact e; rw [if_neg h] at e; exact absurd e h)
                  have hbg : g < wv.heap.size := hLc.st.size
                  clear q1 qf hsz q2 q3 q4 hLc hLz hS hr0 hr1 hz0' xa ya hsf ctw x0 x1 x2 x3 x4 x5 x6 x7 x8 x9 x10 y0 y1 y2 y3 y4 y5 y6 y7 y8 y9 y10
                  obtain ⟨A, c, us, q1, q2, q3, q4⟩ := L3.st.out
                  have hfz := L3.st.fro
                  have hsz := L3.st.size
                  have x0 := (kv.2 0 _ rfl).1
                  have x1 := (kv.2 1 _ rfl).1
                  have x2 := (kv.2 2 _ rfl).1
                  have x3 := (kv.2 3 _ rfl).1
                  have x4 := (kv.2 4 _ rfl).1
                  have x5 := (kv.2 5 _ rfl).1
                  have x6 := (kv.2 6 _ rfl).1
                  have x7 := (kv.2 7 _ rfl).1
                  have x8 := (kv.2 8 _ rfl).1
                  have x9 := (kv.2 9 _ rfl).1
                  have x10 := (kv.2 10 _ rfl).1
                  replace L3 := Lib.hid L3
                  replace hv3 := Lib.hid hv3
                  replace q3 := Lib.hid q3
                  replace q4 := Lib.hid q4
                  replace kv := Lib.hid kv
                  clear hE2
                  by_cases hF0 : F = 0
                  · have gF : (F == 0) = true := by simp [hF0]
                    have e3 : F3 = E2 := by rw [hF2.out, if_pos hF0]
                    replace e3 := Lib.hid e3
                    replace hF0 := Lib.hid hF0
                    replace hF2 := Lib.hid hF2
                    go_wp2_with (at_builtin; refine wpList_append_rg rfl (.tmp 109) (.tmp 111) _ rfl (g + 1) 49 Tryz.underlying22 hif hz0 hz1 hz2 rfl (by decide) rfl (q2.alloc _) rfl (Rd.new wv v'.row 49 11 1 rfl) (row_one v') (j1_max hj5) (j1_bytes hj5) (by simp; omega) ?_; intro A4 c4 W4 ho4 hg4 hob4; have hfin := Lp.push hg1 L3.out (Below.refl _ _) q2 q3.out q4.out hq.out (v := v') (fun e => hv3.out e) hg4 ho4; replace hfin := Lib.hid hfin; have q4c : W4.cell? ⟨g, 1, none⟩ = some (.slice A j c) := hg4.cell (a := ⟨g, 1, none⟩) (by rw [World.cell?_alloc_some _ _ _ (by rw [q1]; rfl)]; exact q1) (fun e => by have := (q2.lt g e.symm).1; omega); have f4c : W4.frozen? ⟨g, 1, none⟩ = false := by (have hl := (show g < (wv.alloc (Obj.cells v'.row.toArray 49)).heap.size by simp; omega); unfold World.frozen?; rw [hg4.block g hl (fun e => by have := (q2.lt g e.symm).1; omega)]; exact (frozen?_alloc_cells _ _ _ _).trans hfz))
                    refine hKK.out _ _ ?_
                    exact ⟨⟨_, _, _, _, _, _, _, _, _, _, _, _, _, _, _, _, _, _, _, _, _, _, _, _, _, _, _, _, _, _, _, _, _, _, _, _, _, _, _, _, _, _, _, _, _, _, _, _, _, _, _, _, _, _, _, _, _, _, _, _, _, _, _, _, _, _, _, _, _, _, _, _, _, _, _, _, _, _, _, _, _, _, _, _, _, _, _, _, _, _, _, _, _, _, _, _, _, _, ⟨j + 1, i + 1, k + 1, by rw [← hF3.out, e3.out], by go_num, by go_num, h1, h2, hHd2, Lib.hid (by rw [← hF3.out]; exact hfin.out)⟩, rfl⟩, by simp [intOf]; omega⟩
                  · have gF : (F == 0) = false := by simpa using hF0
                    have e3 : F3 = F := by rw [hF2.out, if_neg hF0]
                    replace e3 := Lib.hid e3
                    replace hF0 := Lib.hid hF0
                    replace hF2 := Lib.hid hF2
                    go_wp2_with (at_builtin; refine wpList_append_rg rfl (.tmp 109) (.tmp 111) _ rfl (g + 1) 49 Tryz.underlying22 hif hz0 hz1 hz2 rfl (by decide) rfl (q2.alloc _) rfl (Rd.new wv v'.row 49 11 1 rfl) (row_one v') (j1_max hj5) (j1_bytes hj5) (by simp; omega) ?_; intro A4 c4 W4 ho4 hg4 hob4; have hfin := Lp.push hg1 L3.out (Below.refl _ _) q2 q3.out q4.out hq.out (v := v') (fun e => hv3.out e) hg4 ho4; replace hfin := Lib.hid hfin; have q4c : W4.cell? ⟨g, 1, none⟩ = some (.slice A j c) := hg4.cell (a := ⟨g, 1, none⟩) (by rw [World.cell?_alloc_some _ _ _ (by rw [q1]; rfl)]; exact q1) (fun e => by have := (q2.lt g e.symm).1; omega); have f4c : W4.frozen? ⟨g, 1, none⟩ = false := by (have hl := (show g < (wv.alloc (Obj.cells v'.row.toArray 49)).heap.size by simp; omega); unfold World.frozen?; rw [hg4.block g hl (fun e => by have := (q2.lt g e.symm).1; omega)]; exact (frozen?_alloc_cells _ _ _ _).trans hfz))
                    refine hKK.out _ _ ?_
                    exact ⟨⟨_, _, _, _, _, _, _, _, _, _, _, _, _, _, _, _, _, _, _, _, _, _, _, _, _, _, _, _, _, _, _, _, _, _, _, _, _, _, _, _, _, _, _, _, _, _, _, _, _, _, _, _, _, _, _, _, _, _, _, _, _, _, _, _, _, _, _, _, _, _, _, _, _, _, _, _, _, _, _, _, _, _, _, _, _, _, _, _, _, _, _, _, _, _, _, _, _, _, ⟨j + 1, i + 1, k + 1, by rw [← hF3.out, e3.out], by go_num, by go_num, h1, h2, hHd2, Lib.hid (by rw [← hF3.out]; exact hfin.out)⟩, rfl⟩, by simp [intOf]; omega⟩
            · have e2 : ((k : Int) == (nb : Int)) = true := by simp; omega
              have hLz := hLp.out
              have hc : nxt a b i k < 0 := by rw [nxt_l (by rw [← hna.out]; exact h1) (by rw [← hnb.out]; exact h2)]; decide
              have h1' : i < a.vs.length := by rw [← hna.out]; exact h1
              obtain ⟨b1, oo1, hAl, hBl, x0, x1, x2, x3, x4, x5, x6, x7, x8, x9, x10⟩ := (ha.out.vs.below hLz.bx.below).cells i h1'
              rw [hAl] at xa
              clear hAl
              obtain ⟨x, hx⟩ : ∃ v, v = a.vs[i] := ⟨_, rfl⟩
              rw [← hx] at x0 x1 x2 x3 x4 x5 x6 x7 x8 x9 x10
              have vx : VAt x w w.heap.size := by rw [hx]; exact ha.out.vs.all _ (List.getElem_mem h1')
              have okx : OkV x := by rw [hx]; exact oka.out _ (List.getElem_mem h1')
              have gi : (i : Int) < (na : Int) := by omega
              have gi0 : (0 : Int) ≤ (i : Int) := by omega
              have hjl := hHd.out.hj
              have hj5 : j ≤ 512 := by have := hlen.out; have := hna.out; have := hnb.out; omega
              obtain ⟨A, c, us, q1, q2, q3, q4⟩ := hLz.st.out
              have qf := hLz.st.fro
              have hsz := hLz.st.size
              obtain ⟨hq, hHd2⟩ := hHd.out.left h1' hc
              rw [← hx] at hq
              have hF2 : firstE ((mz a.vs b.vs).take (j + 1)) = F := (firstE_one (.inl hq)).trans hF.out.symm
              have qb := fun ob => (World.cell?_alloc_some wr ⟨g, 1, none⟩ ob (by rw [q1]; rfl)).trans q1
              have q2b := fun ob => own_later (q2.alloc ob) (below_drewN (Below.refl _ _) 1)
              have rdx := (Rd.new wr x.row 49 11 1 rfl).below (below_drewN (Below.refl _ _) 1)
              have happ : ∀ (ob : Obj) (W4 : World), ((wr.alloc ob).drewN 1).grownBy W4 (Value.slice A j c).ownBlock → W4.cell? ⟨g, 1, none⟩ = some (.slice A j c) ∧ W4.frozen? ⟨g, 1, none⟩ = false := fun ob W4 hg4 => by
                have hne : some g ≠ (Value.slice A j c).ownBlock := fun e => by have := (q2.lt g e.symm).1; omega
                refine ⟨hg4.cell (a := ⟨g, 1, none⟩) (qb ob) hne, ?_⟩
                have hf2 := fz ((Below.refl wr.heap.size wr).alloc (Nat.le_refl _) ob) hsz qf
                unfold World.frozen? at *
                rw [hg4.block g (show g < (wr.alloc ob).heap.size by simp; omega) hne]; exact hf2
              replace hq := Lib.hid hq
              replace hHd2 := Lib.hid hHd2
              replace hF2 := Lib.hid hF2
              replace hx := Lib.hid hx
              replace vx := Lib.hid vx
              replace okx := Lib.hid okx
              replace happ := Lib.hid happ
              replace q2b := Lib.hid q2b
              replace rdx := Lib.hid rdx
              replace q3 := Lib.hid q3
              replace q4 := Lib.hid q4
              replace hLz := Lib.hid hLz
              go_upto_region 27 with fail
              go_region_law ((refine step_append_rd (v := .slice A j c) (n := j) (c := 1) (m := 1) rfl (.tmp 122) (.tmp 128) _ rfl (g + 1) 49 Tryz.underlying22 hif hz0 hz1 hz2 rfl (by decide) (by kernel_rfl) (q2b.out _) (by kernel_rfl) (ys := x.row) ⟨_, rdx.out⟩ (row_one x) (j1_max hj5) (j1_bytes hj5) (by simp; omega) ?_; intro A4 c4 W4 ho4 hg4 hs4; obtain ⟨q4c, f4c⟩ := happ.out _ _ hg4))
              all_goals
                have hg5 : ((wr.drewN 1).alloc _).grownBy W4 (Value.slice A j c).ownBlock := hg4
                have hfin := Lp.push hg1 hLz.out (W1 := wr.drewN 1) (below_drewN (Below.refl _ _) 1) q2 q3.out q4.out hq.out (v := x) (fun _ => ⟨RE.of vx.out, rfl⟩) hg5 ho4
                clear hg4 hg5 hs4 happ q2b rdx qb x0 x1 x2 x3 x4 x5 x6 x7 x8 x9 x10
                replace hfin := Lib.hid hfin
                go_wp2
                refine hKK.out _ _ ?_
                exact ⟨⟨_, _, _, _, _, _, _, _, _, _, _, _, _, _, _, _, _, _, _, _, _, _, _, _, _, _, _, _, _, _, _, _, _, _, _, _, _, _, _, _, _, _, _, _, _, _, _, _, _, _, _, _, _, _, _, _, _, _, _, _, _, _, _, _, _, _, _, _, _, _, _, _, _, _, _, _, _, _, _, _, _, _, _, _, _, _, _, _, _, _, _, _, _, _, _, _, _, _, ⟨j + 1, i + 1, k, by rw [hF2.out], by go_num, rfl, h1, hk, hHd2, Lib.hid (by rw [hF2.out]; exact hfin.out)⟩, rfl⟩, by simp [intOf]; omega⟩
          · have d1 : decide (i < na) = false := decide_eq_false h1
            by_cases h2 : k < nb
            · have d2 : decide (k < nb) = true := decide_eq_true h2
              have e1 : ((i : Int) == (na : Int)) = true := by simp; omega
              have e2 : ((k : Int) == (nb : Int)) = false := by simp; omega
              have hLz := hLp.out
              have hc : 0 < nxt a b i k := by rw [nxt_r (by rw [← hna.out]; exact h1)]; decide
              have h2' : k < b.vs.length := by rw [← hnb.out]; exact h2
              obtain ⟨b2, oo2, hAr, hBr, y0, y1, y2, y3, y4, y5, y6, y7, y8, y9, y10⟩ := (hb.out.vs.below hLz.bx.below).cells k h2'
              rw [hAr] at ya
              clear hAr
              obtain ⟨y, hy⟩ : ∃ v, v = b.vs[k] := ⟨_, rfl⟩
              rw [← hy] at y0 y1 y2 y3 y4 y5 y6 y7 y8 y9 y10
              have vy : VAt y w w.heap.size := by rw [hy]; exact hb.out.vs.all _ (List.getElem_mem h2')
              have oky : OkV y := by rw [hy]; exact okb.out _ (List.getElem_mem h2')
              have gk : (k : Int) < (nb : Int) := by omega
              have gk0 : (0 : Int) ≤ (k : Int) := by omega
              have hjl := hHd.out.hj
              have hj5 : j ≤ 512 := by have := hlen.out; have := hna.out; have := hnb.out; omega
              obtain ⟨A, c, us, q1, q2, q3, q4⟩ := hLz.st.out
              have qf := hLz.st.fro
              have hsz := hLz.st.size
              obtain ⟨hq, hHd2⟩ := hHd.out.right h2' hc
              rw [← hy] at hq
              have hF2 : firstE ((mz a.vs b.vs).take (j + 1)) = F := (firstE_one (.inr hq)).trans hF.out.symm
              have qb := fun ob => (World.cell?_alloc_some wr ⟨g, 1, none⟩ ob (by rw [q1]; rfl)).trans q1
              have q2b := fun ob => own_later (q2.alloc ob) (below_drewN (Below.refl _ _) 1)
              have rdx := (Rd.new wr y.row 49 11 1 rfl).below (below_drewN (Below.refl _ _) 1)
              have happ : ∀ (ob : Obj) (W4 : World), ((wr.alloc ob).drewN 1).grownBy W4 (Value.slice A j c).ownBlock → W4.cell? ⟨g, 1, none⟩ = some (.slice A j c) ∧ W4.frozen? ⟨g, 1, none⟩ = false := fun ob W4 hg4 => by
                have hne : some g ≠ (Value.slice A j c).ownBlock := fun e => by have := (q2.lt g e.symm).1; omega
                refine ⟨hg4.cell (a := ⟨g, 1, none⟩) (qb ob) hne, ?_⟩
                have hf2 := fz ((Below.refl wr.heap.size wr).alloc (Nat.le_refl _) ob) hsz qf
                unfold World.frozen? at *
                rw [hg4.block g (show g < (wr.alloc ob).heap.size by simp; omega) hne]; exact hf2
              replace hq := Lib.hid hq
              replace hHd2 := Lib.hid hHd2
              replace hF2 := Lib.hid hF2
              replace hy := Lib.hid hy
              replace vy := Lib.hid vy
              replace oky := Lib.hid oky
              replace happ := Lib.hid happ
              replace q2b := Lib.hid q2b
              replace rdx := Lib.hid rdx
              replace q3 := Lib.hid q3
              replace q4 := Lib.hid q4
              replace hLz := Lib.hid hLz
              go_upto_region 30 with fail
              go_region_law ((refine step_append_rd (v := .slice A j c) (n := j) (c := 1) (m := 1) rfl (.tmp 137) (.tmp 143) _ rfl (g + 1) 49 Tryz.underlying22 hif hz0 hz1 hz2 rfl (by decide) (by kernel_rfl) (q2b.out _) (by kernel_rfl) (ys := y.row) ⟨_, rdx.out⟩ (row_one y) (j1_max hj5) (j1_bytes hj5) (by simp; omega) ?_; intro A4 c4 W4 ho4 hg4 hs4; obtain ⟨q4c, f4c⟩ := happ.out _ _ hg4))
              all_goals
                have hg5 : ((wr.drewN 1).alloc _).grownBy W4 (Value.slice A j c).ownBlock := hg4
                have hfin := Lp.push hg1 hLz.out (W1 := wr.drewN 1) (below_drewN (Below.refl _ _) 1) q2 q3.out q4.out hq.out (v := y) (fun _ => ⟨RE.of vy.out, rfl⟩) hg5 ho4
                clear hg4 hg5 hs4 happ q2b rdx qb y0 y1 y2 y3 y4 y5 y6 y7 y8 y9 y10
                replace hfin := Lib.hid hfin
                go_wp2
                refine hKK.out _ _ ?_
                exact ⟨⟨_, _, _, _, _, _, _, _, _, _, _, _, _, _, _, _, _, _, _, _, _, _, _, _, _, _, _, _, _, _, _, _, _, _, _, _, _, _, _, _, _, _, _, _, _, _, _, _, _, _, _, _, _, _, _, _, _, _, _, _, _, _, _, _, _, _, _, _, _, _, _, _, _, _, _, _, _, _, _, _, _, _, _, _, _, _, _, _, _, _, _, _, _, _, _, _, _, _, ⟨j + 1, i, k + 1, by rw [hF2.out], rfl, by go_num, hi, h2, hHd2, Lib.hid (by rw [hF2.out]; exact hfin.out)⟩, rfl⟩, by simp [intOf]; omega⟩
            · have hie : i = na := by omega
              have d2 : decide (k < nb) = false := decide_eq_false h2
              have hje : j = (mz a.vs b.vs).length := hHd.out.end (by rw [← hna.out]; exact h1) (by rw [← hnb.out]; exact h2)
              have hke : k = nb := by omega
              have hFl : F = firstE (mz a.vs b.vs) := by rw [hF.out, hje, List.take_length]
              have hLz := hLp.out
              have hj5 : j ≤ 512 := by have := hlen.out; have := hna.out; have := hnb.out; omega
              have hjI : (j : Int) ≤ 512 := by omega
              have bxz := hLz.bx
              have hwz := bxz.below
              have k3 := bxz.k3
              unfold zsn at k3
              have q0 := hLz.st.c0
              have q2 := hLz.st.c2
              obtain ⟨A, c, us, q1, o2, o3, o4⟩ := hLz.st.out
              have a2 := (bxz.k1.2 2 _ rfl).1
              have r0 := (k3.2 0 _ rfl).1
              have s0 := (k3.2 0 _ rfl).2
              have r1 := (k3.2 1 _ rfl).1
              have s1 := (k3.2 1 _ rfl).2
              have r2 := (k3.2 2 _ rfl).1
              have s2 := (k3.2 2 _ rfl).2
              have hE2 := hE1.out
              rw [← hFl, ← hje] at hE2
              obtain ⟨R, hR⟩ : ∃ R, R = IntKind.u64.wrap (a.r + b.r) := ⟨_, rfl⟩
              rw [← hR] at q2 hE2 hmc hrr
              have hsz := hLz.st.size
              replace hR := Lib.hid hR
              replace o3 := Lib.hid o3
              replace o4 := Lib.hid o4
              replace bxz := Lib.hid bxz
              replace hje := Lib.hid hje
              replace hke := Lib.hid hke
              replace hie := Lib.hid hie
              replace hFl := Lib.hid hFl
              replace hE2 := Lib.hid hE2
              replace hLz := Lib.hid hLz
              clear hE1
              go_upto_region 32 with fail
              by_cases hn : 256 < j
              · have gn : (256 : Int) < (j : Int) := by omega
                have hE5 : E = 3 := by rw [hE2.out, if_pos hn]
                have hfin := hbad.out (by rw [hE5]; decide)
                rw [hE5] at hfin
                replace hfin := Lib.hid hfin
                replace hE5 := Lib.hid hE5
                go_wp2_with (with_reducible refine bodyPost_kept ?_)
                refine ⟨?_⟩
                refine ret45 rfl rfl (k3.st3 rfl _ _ _) ?_
                exact hfin.out _ (by have := hwz; go_grown)
              · have gn : ¬ (256 : Int) < (j : Int) := by omega
                go_upto_region 34 with fail
                by_cases hF0 : F = 0
                · have gF : (F != 0) = false := by simp [hF0]
                  replace hF0 := Lib.hid hF0
                  go_upto_region 36 with fail
                  by_cases hlt : R < a.r
                  · have hlt' : decide (R < a.r) = true := decide_eq_true hlt
                    have hE5 : E = 3 := by rw [hE2.out, if_neg hn, if_neg (fun h => h hF0.out), if_pos hlt]
                    skip
                    have hfin := hbad.out (by rw [hE5]; decide)
                    rw [hE5] at hfin
                    replace hfin := Lib.hid hfin
                    replace hE5 := Lib.hid hE5
                    go_wp2_with (with_reducible refine bodyPost_kept ?_)
                    refine ⟨?_⟩
                    refine ret45 rfl rfl (k3.st3 rfl _ _ _) ?_
                    exact hfin.out _ (by have := hwz; go_grown)
                  · have hlt' : decide (R < a.r) = false := decide_eq_false hlt
                    have hE5 : E = 0 := by rw [hE2.out, if_neg hn, if_neg (fun h => h hF0.out), if_neg hlt]
                    have hst : RSt w w.heap.size g a.p R (mz a.vs b.vs) (mz a.vs b.vs).length 0 wr := by have := hLz.out.st; rw [← hR.out, hF0.out] at this; rw [← hje.out]; exact this
                    obtain ⟨s, e1s, e2s, e3s, e4s, e5s⟩ := hst.snap hp1.out hrr.out (by rw [← hje.out]; omega)
                    have hmm := hmc.out s hE5 e1s e2s e4s
                    have hee := fun x0 x1 x2 => e5s (w.heap.size + 1 + 1) x0 x1 x2 (by omega) (by omega)
                    have hsv : s.v = .agg #[.int .i64 a.p, .slice s.A s.vs.length s.c, .int .u64 R] := by unfold Ss.v; rw [e1s, e2s]
                    obtain ⟨ns, hns⟩ : ∃ n, n = s.vs.length := ⟨_, rfl⟩
                    rw [← hns] at e3s hsv
                    rw [q1] at e3s
                    obtain ⟨rfl, rfl, rfl⟩ : A = s.A ∧ j = ns ∧ c = s.c := by injection e3s with e3s; injection e3s with h1 h2 h3; exact ⟨h1, h2, h3⟩
                    have hE6 := hEE.out.symm.trans hE5
                    replace hE5 := Lib.hid hE5
                    replace hE6 := Lib.hid hE6
                    replace hmm := Lib.hid hmm
                    replace hee := Lib.hid hee
                    replace hsv := Lib.hid hsv
                    replace hns := Lib.hid hns
                    clear hmc e1s e2s e4s e5s e3s hst
                    go_wp2_with (with_reducible refine bodyPost_kept ?_)
                    refine ⟨?_⟩
                    refine ret45 rfl rfl (k3.st3 rfl _ _ _) ?_
                    rw [hPst.out]
                    refine ⟨by have := hwz; go_grown, s, ?_, hee.out _ _ _, hmm.out⟩
                    rw [hsv.out, hE6.out]
                · have gF : (F != 0) = true := by simpa using hF0
                  have hE5 : E = F := by rw [hE2.out, if_neg hn, if_pos hF0]
                  have hfin := hbad.out (by rw [hE5]; exact hF0)
                  rw [hE5] at hfin
                  replace hfin := Lib.hid hfin
                  replace hE5 := Lib.hid hE5
                  replace hF0 := Lib.hid hF0
                  go_wp2_with (with_reducible refine bodyPost_kept ?_)
                  refine ⟨?_⟩
                  refine ret45 rfl rfl (k3.st3 rfl _ _ _) ?_
                  exact hfin.out _ (by have := hwz; go_grown)
    · have ge : (eb1 != 0) = true := by simpa using hz2
      have hE5 : E = eb1 := by rw [hE.out, hz1.out, if_neg (by decide), if_pos hz2]
      have hfin := hbad.out (by rw [hE5]; exact hz2)
      rw [hE5] at hfin
      replace hfin := Lib.hid hfin
      replace hE5 := Lib.hid hE5
      replace hz2 := Lib.hid hz2
      have r0 := (k3.2 0 _ rfl).1
      have s0 := (k3.2 0 _ rfl).2
      have r1 := (k3.2 1 _ rfl).1
      have s1 := (k3.2 1 _ rfl).2
      have r2 := (k3.2 2 _ rfl).1
      have s2 := (k3.2 2 _ rfl).2
      go_wp2_with (with_reducible refine bodyPost_kept ?_)
      refine ⟨?_⟩
      refine ret45 rfl rfl (k3.st3 rfl _ _ _) ?_
      exact hfin.out _ (by have := hw3; go_grown)
  · have ge : (ea1 != 0) = true := by simpa using hz1
    have hE5 : E = ea1 := by rw [hE.out, if_pos hz1]
    have hfin := hbad.out (by rw [hE5]; exact hz1)
    rw [hE5] at hfin
    replace hfin := Lib.hid hfin
    replace hE5 := Lib.hid hE5
    replace hz1 := Lib.hid hz1
    have r0 := (k3.2 0 _ rfl).1
    have s0 := (k3.2 0 _ rfl).2
    have r1 := (k3.2 1 _ rfl).1
    have s1 := (k3.2 1 _ rfl).2
    have r2 := (k3.2 2 _ rfl).1
    have s2 := (k3.2 2 _ rfl).2
    go_wp2_with (with_reducible refine bodyPost_kept ?_)
    refine ⟨?_⟩
    refine ret45 rfl rfl (k3.st3 rfl _ _ _) ?_
    exact hfin.out _ (by have := hw2; go_grown)
end Go.Proofs.YtpiegngjpnpohaaGreat.Sn
