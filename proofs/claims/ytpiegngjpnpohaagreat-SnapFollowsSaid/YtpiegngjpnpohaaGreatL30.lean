/- Lemmas for the laws of this seat, laid together of Sc5, Sc0. -/
import Derived.Test.YtpiegngjpnpohaaGreatL28
import Derived.Test.YtpiegngjpnpohaaGreatL29
import Derived.Laws.MakeOwn

namespace Go.Proofs.YtpiegngjpnpohaaGreat.Sn
open Go.RowKit Go.Proofs.YtpiegngjpnpohaaGreat.La Go.Proofs.YtpiegngjpnpohaaGreat.Sl Go.Proofs.YtpiegngjpnpohaaGreat.Ck Go.Proofs.YtpiegngjpnpohaaGreat.Rc Go.Proofs.YtpiegngjpnpohaaGreat.Rk Go.Proofs.YtpiegngjpnpohaaGreat.Wi Go.Proofs.YtpiegngjpnpohaaGreat.Fb Go.Proofs.YtpiegngjpnpohaaGreat.Mg Go.Proofs.YtpiegngjpnpohaaGreat.St Go.Proofs.YtpiegngjpnpohaaGreat.Bk
set_option linter.unusedVariables false
def vC (c : Cv) : Vv := ⟨cD c, c.t, none, 0, c.cs, c.n, c.sm, c.mn, c.mx⟩
def hldC (p : Int) (c : Cv) : Bool := holdB p (vC c)
theorem hldC_v (p : Int) (v : Vv) : hldC p v.c = holdB p v := holdB_congr rfl rfl rfl rfl rfl rfl rfl
theorem chkD_v (v : Vv) : chkD (cD v.c) = chkD v.d := chkD_congr rfl rfl rfl rfl
theorem wS_merge {f : Int → Int} (hf : ∀ i, 0 ≤ f i ∧ f i ≤ ((9223372036854775807 : Nat) : Int)) {l m : List Cnt} (ho : okN (l ++ m)) (hfit : tW (fun _ => true) (l ++ m) < two64) : wS f (mrg (l ++ m)) = wS f l + wS f m := by
  have h := wS_congr (fun i => (hf i).1) (a := mrg (l ++ m)) (b := l ++ m) ((mrg_facts _ ho).2.2.2.2 hfit) (fun i => (hf i).2)
  rw [h, wS_app]
theorem two_hist {p : Int} {a b : Cv} (ha : OkC a) (hb : OkC b) (h1 : histB p (vC a) = true) (h2 : histB p (vC b) = true) (hn : a.n + b.n ≤ 9223372036854775807) : histB p (vC (twoC a b)) = true := by
  unfold histB at *
  simp only [decide_eq_true_eq] at *
  obtain ⟨e1, n1, l1, g1⟩ := h1
  obtain ⟨e2, n2, l2, g2⟩ := h2
  change mayE p a.cs = 0 at e1
  change mayE p b.cs = 0 at e2
  change a.n = totF 0 a.cs at n1
  change b.n = totF 0 b.cs at n2
  change lowS p a.cs ≤ a.t at l1
  change lowS p b.cs ≤ b.t at l2
  change a.t ≤ higS p a.cs at g1
  change b.t ≤ higS p b.cs at g2
  show mayE p (mrg (a.cs ++ b.cs)) = 0 ∧ a.n + b.n = totF 0 (mrg (a.cs ++ b.cs)) ∧ lowS p (mrg (a.cs ++ b.cs)) ≤ a.t + b.t ∧ a.t + b.t ≤ higS p (mrg (a.cs ++ b.cs))
  have ok1 := ha.cs
  have ok2 := hb.cs
  have ho : okN (a.cs ++ b.cs) := okC_okN fun c hc => (List.mem_append.1 hc).elim (ok1 c) (ok2 c)
  have p0 := ha.n.1
  have q0 := hb.n.1
  have ht := merges_tot ok1 ok2
  have hwr : IntKind.u64.wrap (totF 0 a.cs + totF 0 b.cs) = a.n + b.n := by rw [← n1, ← n2, IntKind.wrap_u64]; omega
  rw [hwr] at ht
  have hm := (merges_may ok1 ok2 e1 e2).1
  rw [ht, if_neg (by omega)] at hm
  have f1 := may_facts e1 ok1
  have f2 := may_facts e2 ok2
  have hfit : tW (fun _ => true) (a.cs ++ b.cs) < two64 := by
    rw [tW_append, ← sumN_tW, ← sumN_tW, ← f1.2.2.2.2.2, ← f2.2.2.2.2.2, ← n1, ← n2]
    have : two64 = 18446744073709551616 := rfl
    omega
  have hl : lowS p (mrg (a.cs ++ b.cs)) = lowS p a.cs + lowS p b.cs := wS_merge (f := lowI p) (fun i => ⟨lo_le.1, Int.le_trans lo_le.2.1 lo_le.2.2⟩) ho hfit
  have hg : higS p (mrg (a.cs ++ b.cs)) = higS p a.cs + higS p b.cs := wS_merge (f := higI p) (fun i => ⟨Int.le_trans lo_le.1 lo_le.2.1, lo_le.2.2⟩) ho hfit
  exact ⟨hm, ht.symm, by omega, by omega⟩
theorem twoE_ok {a b : Cv} (h : twoE a b = 0) : a.t + b.t ≤ 170141183460469231731687303715884105727 ∧ a.n + b.n ≤ 9223372036854775807 ∧ finF (flo a b).1 = true := by
  unfold twoE at h
  by_cases h1 : 170141183460469231731687303715884105727 < a.t + b.t ∨ 9223372036854775807 < a.n + b.n
  · rw [if_pos h1] at h; cases h
  · rw [if_neg h1] at h
    by_cases h2 : finF (flo a b).1 = false
    · rw [if_pos h2] at h; cases h
    · exact ⟨by omega, by omega, by simpa using h2⟩
theorem zero_flo {a b : Cv} (ha : a.sm = 0 ∧ a.mn = 0 ∧ a.mx = 0) (hb : b.sm = 0 ∧ b.mn = 0 ∧ b.mx = 0) : flo a b = (0, 0, 0) := by
  rw [flo_def, ha.1, ha.2.1, ha.2.2, hb.1, hb.2.1, hb.2.2]
  have e : mnF 0 0 = 0 ∧ mxF 0 0 = 0 := by unfold mnF mxF; constructor <;> split <;> rfl
  rw [e.1, e.2, zero_sum]
  split
  · rfl
  · split <;> rfl
theorem two_hld {p : Int} {a b : Cv} (ha : OkC a) (hb : OkC b) (h1 : hldC p a = true) (h2 : hldC p b = true) (hk : a.kind = b.kind) (he : twoE a b = 0) : hldC p (twoC a b) = true := by
  obtain ⟨e1, e2, e3⟩ := twoE_ok he
  unfold hldC holdB at *
  change (if a.kind = 1 then _ else if a.kind = 2 then _ else _) = true at h1
  change (if b.kind = 1 then _ else if b.kind = 2 then _ else _) = true at h2
  change (if a.kind = 1 then _ else if a.kind = 2 then _ else _) = true
  rw [← hk] at h2
  have zz : a.kind ≠ 3 → zer3 (vC (twoC a b)) = true := fun k => by
    have hf := zero_flo (ha.z (.inr k)) (hb.z (.inr (by rw [← hk]; exact k)))
    show (zeroF (flo a b).1 && zeroF (flo a b).2.1 && zeroF (flo a b).2.2) = true
    rw [hf]; decide
  have p0 := ha.n.1
  have q0 := hb.n.1
  have pt := ha.t
  have qt := hb.t
  by_cases k1 : a.kind = 1
  · rw [if_pos k1] at h1 h2 ⊢
    simp only [Bool.and_eq_true, decide_eq_true_eq] at h1 h2 ⊢
    have c1 : a.cs = [] := List.eq_nil_of_length_eq_zero h1.1.1.1
    have c2 : b.cs = [] := List.eq_nil_of_length_eq_zero h2.1.1.1
    have n1 : a.n = 0 := h1.1.1.2
    have n2 : b.n = 0 := h2.1.1.2
    refine ⟨⟨⟨?_, ?_⟩, zz (by omega)⟩, ?_⟩
    · show (mrg (a.cs ++ b.cs)).length = 0
      rw [c1, c2]; show (mrg []).length = 0; rw [mrg_nil]; rfl
    · show a.n + b.n = 0; omega
    · show 0 ≤ a.t + b.t; omega
  · rw [if_neg k1] at h1 h2 ⊢
    by_cases k2 : a.kind = 2
    · rw [if_pos k2] at h1 h2 ⊢
      simp only [Bool.and_eq_true] at h1 h2 ⊢
      exact ⟨zz (by omega), two_hist ha hb h1.2 h2.2 e2⟩
    · rw [if_neg k2] at h1 h2 ⊢
      by_cases x1 : (vC a).t ≠ 0 ∨ 0 < (vC a).cs.length ∨ 9223372036854775807 < (vC a).n
      · rw [if_pos x1] at h1; cases h1
      · by_cases x2 : (vC b).t ≠ 0 ∨ 0 < (vC b).cs.length ∨ 9223372036854775807 < (vC b).n
        · rw [if_pos x2] at h2; cases h2
        · rw [if_neg x1] at h1
          rw [if_neg x2] at h2
          have t1 : a.t = 0 := Decidable.not_not.1 fun h => x1 (.inl h)
          have t2 : b.t = 0 := Decidable.not_not.1 fun h => x2 (.inl h)
          have c1 : a.cs = [] := List.eq_nil_of_length_eq_zero (Nat.eq_zero_of_not_pos fun h => x1 (.inr (.inl h)))
          have c2 : b.cs = [] := List.eq_nil_of_length_eq_zero (Nat.eq_zero_of_not_pos fun h => x2 (.inr (.inl h)))
          have x3 : ¬ ((vC (twoC a b)).t ≠ 0 ∨ 0 < (vC (twoC a b)).cs.length ∨ 9223372036854775807 < (vC (twoC a b)).n) := by
            rintro (h | h | h)
            · exact h (by show a.t + b.t = 0; omega)
            · have h' : 0 < (mrg (a.cs ++ b.cs)).length := h
              rw [c1, c2] at h'
              have h'' : 0 < (mrg []).length := h'
              rw [mrg_nil] at h''; cases h''
            · have h' : 9223372036854775807 < a.n + b.n := h
              omega
          rw [if_neg x3]
          change (if a.n = 0 then _ else _) = true at h1
          change (if b.n = 0 then _ else _) = true at h2
          change (if a.n + b.n = 0 then _ else _) = true
          by_cases n1 : a.n = 0
          · by_cases n2 : b.n = 0
            · rw [if_pos (by omega)]
              have hf := zero_flo (ha.z (.inl n1)) (hb.z (.inl n2))
              show (zeroF (flo a b).1 && zeroF (flo a b).2.1 && zeroF (flo a b).2.2) = true
              rw [hf]; decide
            · rw [if_neg (by omega)]
              rw [if_neg n2] at h2
              have hf : flo a b = (b.sm, b.mn, b.mx) := by rw [flo_def, if_pos n1]
              show (finF (flo a b).1 && finF (flo a b).2.1 && finF (flo a b).2.2 && decide (cmpF (flo a b).2.1 (flo a b).2.2 ≤ 0)) = true
              rw [hf]; exact h2
          · rw [if_neg (by omega)]
            rw [if_neg n1] at h1
            by_cases n2 : b.n = 0
            · have hf : flo a b = (a.sm, a.mn, a.mx) := by rw [flo_def, if_neg n1, if_pos n2]
              show (finF (flo a b).1 && finF (flo a b).2.1 && finF (flo a b).2.2 && decide (cmpF (flo a b).2.1 (flo a b).2.2 ≤ 0)) = true
              rw [hf]; exact h1
            · rw [if_neg n2] at h2
              have hf : (flo a b).2 = (mnF a.mn b.mn, mxF a.mx b.mx) := by rw [flo_def, if_neg n1, if_neg n2]
              show (finF (flo a b).1 && finF (flo a b).2.1 && finF (flo a b).2.2 && decide (cmpF (flo a b).2.1 (flo a b).2.2 ≤ 0)) = true
              rw [hf, e3]
              have l1 : cmpF a.mn a.mx ≤ 0 := by
                have := (Bool.and_eq_true _ _ ▸ h1).2
                exact of_decide_eq_true this
              have l2 : cmpF b.mn b.mx ≤ 0 := by
                have := (Bool.and_eq_true _ _ ▸ h2).2
                exact of_decide_eq_true this
              rw [cmpF_le] at l1 l2
              have f1 : finF (mnF a.mn b.mn) = true := by unfold mnF; split; exact hb.f.2.1; exact ha.f.2.1
              have f2 : finF (mxF a.mx b.mx) = true := by unfold mxF; split; exact hb.f.2.2; exact ha.f.2.2
              have f3 : cmpF (mnF a.mn b.mn) (mxF a.mx b.mx) ≤ 0 := by rw [cmpF_le, mnF_rk, mxF_rk]; omega
              simp only [f1, f2, Bool.and_self, Bool.true_and]
              exact decide_eq_true f3
theorem firstE_zero : ∀ {L : List (Option Vv × Option Vv)}, firstE L = 0 → ∀ q ∈ L, errP q = 0
  | [], _, q, hq => by cases hq
  | p :: r, h, q, hq => by
    have e : firstE (p :: r) = if errP p ≠ 0 then errP p else firstE r := rfl
    rw [e] at h
    by_cases h0 : errP p = 0
    · rw [if_neg (fun k => k h0)] at h
      rcases List.mem_cons.1 hq with rfl | hq
      · exact h0
      · exact firstE_zero h q hq
    · rw [if_pos h0] at h; exact absurd h h0
theorem Chk.sort {p : Int} {vs : List Vv} (h : Chk p vs) : SortC (vs.map Vv.c) := by
  unfold SortC
  rw [List.pairwise_map]
  exact h.ord.imp fun {u v} t => by rw [cmpC_v]; exact t.1
theorem mrgE_ok {a b : Ss} (e : mrgE a b = 0) : good a.p ∧ a.p = b.p ∧ Chk a.p a.vs ∧ Chk b.p b.vs ∧ a.vs.length ≤ 256 ∧ b.vs.length ≤ 256 ∧ unlikeB a.vs b.vs = false ∧ (mz a.vs b.vs).length ≤ 256 ∧ firstE (mz a.vs b.vs) = 0 ∧ ¬ IntKind.u64.wrap (a.r + b.r) < a.r := by
  unfold mrgE at e
  by_cases h1 : (chkS a.p a.vs).1 = 0
  · rw [if_neg (fun k => k h1)] at e
    by_cases h2 : (chkS b.p b.vs).1 = 0
    · rw [if_neg (fun k => k h2)] at e
      by_cases h3 : a.p ≠ b.p ∨ unlikeB a.vs b.vs = true
      · rw [if_pos h3] at e; cases e
      · rw [if_neg h3] at e
        by_cases h4 : 256 < (mz a.vs b.vs).length
        · rw [if_pos h4] at e; cases e
        · rw [if_neg h4] at e
          by_cases h5 : firstE (mz a.vs b.vs) = 0
          · rw [if_neg (fun k => k h5)] at e
            by_cases h6 : IntKind.u64.wrap (a.r + b.r) < a.r
            · rw [if_pos h6] at e; cases e
            · obtain ⟨g1, l1, c1⟩ := (chkS_ok _ _).1 h1
              obtain ⟨g2, l2, c2⟩ := (chkS_ok _ _).1 h2
              refine ⟨g1, Decidable.not_not.1 fun h => h3 (.inl h), c1, c2, l1, l2, ?_, by omega, h5, h6⟩
              cases hu : unlikeB a.vs b.vs with
              | false => rfl
              | true => exact absurd (.inr hu) h3
          · rw [if_pos h5] at e; exact absurd e h5
    · rw [if_pos h2] at e; exact absurd e h2
  · rw [if_pos h1] at e; exact absurd e h1
theorem merged_from {a b : Ss} {c : Cv} (h : c ∈ (mz a.vs b.vs).map outP) (hf : firstE (mz a.vs b.vs) = 0) : (∃ x ∈ a.vs, c = x.c) ∨ (∃ y ∈ b.vs, c = y.c) ∨ ∃ x ∈ a.vs, ∃ y ∈ b.vs, cmpD x.d y.d = 0 ∧ twoE x.c y.c = 0 ∧ c = twoC x.c y.c := by
  obtain ⟨q, hq, rfl⟩ := List.mem_map.1 h
  have he := firstE_zero hf q hq
  rcases mz_mem _ _ _ hq with ⟨x, hx, rfl⟩ | ⟨y, hy, rfl⟩ | ⟨x, hx, y, hy, rfl, h0⟩
  · exact .inl ⟨x, hx, rfl⟩
  · exact .inr (.inl ⟨y, hy, rfl⟩)
  · exact .inr (.inr ⟨x, hx, y, hy, h0, he, rfl⟩)
theorem merged_chk {a b : Ss} {vs : List Vv} (pa : ∀ v ∈ a.vs, PlainV v) (pb : ∀ v ∈ b.vs, PlainV v) (e : mrgE a b = 0) (hm : vs.map Vv.c = (mz a.vs b.vs).map outP) : (chkS a.p vs).1 = 0 := by
  obtain ⟨g, hp, ca, cb, la, lb, hu, hl, hf, hr⟩ := mrgE_ok e
  have oka : ∀ v ∈ a.vs, OkC v.c := fun v hv => (okV_of (pa v hv) (ca.each v hv).1 (ca.each v hv).2).okc (pa v hv)
  have okb : ∀ v ∈ b.vs, OkC v.c := fun v hv => (okV_of (pb v hv) (cb.each v hv).1 (cb.each v hv).2).okc (pb v hv)
  have from' : ∀ v ∈ vs, (∃ x ∈ a.vs, v.c = x.c) ∨ (∃ y ∈ b.vs, v.c = y.c) ∨ ∃ x ∈ a.vs, ∃ y ∈ b.vs, cmpD x.d y.d = 0 ∧ twoE x.c y.c = 0 ∧ v.c = twoC x.c y.c := fun v hv =>
    merged_from (by rw [← hm]; exact List.mem_map.2 ⟨v, hv, rfl⟩) hf
  have org : ∀ v ∈ vs, ∃ x, (x ∈ a.vs ∨ x ∈ b.vs) ∧ v.d.name = x.d.name ∧ v.d.kind = x.d.kind ∧ v.d.help = x.d.help := fun v hv => by
    rcases from' v hv with ⟨x, hx, h⟩ | ⟨y, hy, h⟩ | ⟨x, hx, y, hy, _, _, h⟩
    · exact ⟨x, .inl hx, congrArg Cv.name h, congrArg Cv.kind h, congrArg Cv.help h⟩
    · exact ⟨y, .inr hy, congrArg Cv.name h, congrArg Cv.kind h, congrArg Cv.help h⟩
    · exact ⟨x, .inl hx, congrArg Cv.name h, congrArg Cv.kind h, congrArg Cv.help h⟩
  have al : ∀ x, (x ∈ a.vs ∨ x ∈ b.vs) → ∀ y, (y ∈ a.vs ∨ y ∈ b.vs) → x.d.name = y.d.name → x.d.kind = y.d.kind ∧ x.d.help = y.d.help := fun x hx y hy hn => by
    have un : ∀ {u v : Vv}, alD u.d v.d = true → u.d.kind = v.d.kind ∧ u.d.help = v.d.help := fun h => by unfold alD at h; exact of_decide_eq_true h
    rcases hx with hx | hx <;> rcases hy with hy | hy
    · exact un (ca.once x hx y hy hn)
    · exact unlike_no hu hx hy hn
    · have := unlike_no hu hy hx hn.symm; exact ⟨this.1.symm, this.2.symm⟩
    · exact un (cb.once x hx y hy hn)
  refine (chkS_ok _ _).2 ⟨g, ?_, fun v hv => ?_, ?_⟩
  · have := congrArg List.length hm
    rw [List.length_map, List.length_map] at this
    omega
  · rw [← chkD_v, ← hldC_v]
    rcases from' v hv with ⟨x, hx, h⟩ | ⟨y, hy, h⟩ | ⟨x, hx, y, hy, h0, he, h⟩
    · rw [h, chkD_v, hldC_v]; exact ca.each x hx
    · rw [h, chkD_v, hldC_v, hp]; exact cb.each y hy
    · have hk := (unlike_no hu hx hy ((cmpD_zero _ _).1 h0).1)
      refine ⟨?_, ?_⟩
      · rw [h]
        have : chkD (cD (twoC x.c y.c)) = chkD x.d := chkD_congr rfl rfl rfl rfl
        rw [this]; exact (ca.each x hx).1
      · rw [h]
        exact two_hld (oka x hx) (okb y hy) (by rw [hldC_v]; exact (ca.each x hx).2) (by rw [hldC_v, hp]; exact (cb.each y hy).2) hk.1 he
  · have hs : SortC (vs.map Vv.c) := by rw [hm, mz_mgC]; exact mgC_sort ca.sort cb.sort
    unfold SortC at hs
    rw [List.pairwise_map] at hs
    refine List.Pairwise.imp_of_mem ?_ hs
    intro u v hu' hv' h
    rw [cmpC_v] at h
    refine ⟨h, fun hn => ?_⟩
    obtain ⟨x, hx, x1, x2, x3⟩ := org u hu'
    obtain ⟨y, hy, y1, y2, y3⟩ := org v hv'
    have := al x hx y hy (by rw [← x1, ← y1]; exact hn)
    exact ⟨by rw [x2, y2]; exact this.1, by rw [x3, y3]; exact this.2⟩
end Go.Proofs.YtpiegngjpnpohaaGreat.Sn

namespace Go.Proofs.YtpiegngjpnpohaaGreat.Sn
open Go.RowKit Go.Proofs.YtpiegngjpnpohaaGreat.La Go.Proofs.YtpiegngjpnpohaaGreat.Sl Go.Proofs.YtpiegngjpnpohaaGreat.Ck Go.Proofs.YtpiegngjpnpohaaGreat.Rc Go.Proofs.YtpiegngjpnpohaaGreat.Rk Go.Proofs.YtpiegngjpnpohaaGreat.Wi Go.Proofs.YtpiegngjpnpohaaGreat.Fb Go.Proofs.YtpiegngjpnpohaaGreat.Mg Go.Proofs.YtpiegngjpnpohaaGreat.St
set_option linter.unusedVariables false
theorem mk_row {P : Program} {t e : TypeId} {z : Value} {s b : Nat} (ht : P.underlying t = some (.slice e)) (hinf : (P.info? e).map (fun i => (i.zero, i.size, i.bytes)) = some (some z, s, b)) (hb : b ≤ 136) (n : Nat) (hn : n ≤ 1048576) (hs : ∀ k, (madeCells z.cells (k * s)).size = k * s) :
    ∃ M : Array Value, M.size = (n + 2) * s ∧ ∀ w : World, (Instr.makeSlice t (.int .i64 0) (.int .i64 ((n : Int) + 2))).run P w = .ok (.slice (some ⟨w.heap.size, 0, none⟩) 0 (n + 2)) (w.alloc (.cells M e)) := by
  obtain ⟨i0, hi0, hz0, hz1, hz2⟩ := inf3 hinf
  have e : ((n : Int) + 2).toNat = n + 2 := by omega
  refine ⟨madeCells z.cells (((n : Int) + 2).toNat * i0.size), by rw [hz1, e]; exact hs _, fun w => ?_⟩
  have hb2 : (b : Int) * ((n : Int) + 2) ≤ 136 * 1048578 := Int.mul_le_mul (by omega) (by omega) (by omega) (by omega)
  have := run_make (P := P) w t _ i0 _ ht hi0 hz0 .i64 .i64 0 ((n : Int) + 2) (Int.le_refl _) (by omega) (by rw [hz2]; omega) (by omega)
  rw [this, e]
  rfl
theorem len_ok (n : Nat) (h : n ≤ 1048576) : 0 + n ≤ maxLen := Nat.le_trans (by omega : 0 + n ≤ 1048576) (by decide)
theorem two_ok (n : Nat) (h : n ≤ 1048576) : n + 2 ≤ maxLen := Nat.le_trans (by omega : n + 2 ≤ 1048578) (by decide)
theorem bytes_ok (n b : Nat) (h : n ≤ 1048576) (hb : b ≤ 136) : (0 + n) * b ≤ 140737488355328 := by
  rw [Nat.zero_add]
  exact Nat.le_trans (Nat.mul_le_mul h hb) (by decide)
structure CSt (w0 : World) (s : Ss) (i : Nat) (W : World) : Prop where
  below : Below w0.heap.size w0 W
  k1 : Blk W w0.heap.size (snC s)
  k2 : Blk W (w0.heap.size + 1) zsn
  size : w0.heap.size + 2 < W.heap.size
  c0 : W.cell? ⟨w0.heap.size + 2, 0, none⟩ = some (.int .i64 s.p)
  c2 : W.cell? ⟨w0.heap.size + 2, 2, none⟩ = some (.int .u64 s.r)
  fro : W.frozen? ⟨w0.heap.size + 2, 1, none⟩ = false
  out : ∃ A c us, W.cell? ⟨w0.heap.size + 2, 1, none⟩ = some (.slice A i c) ∧ W.ownsRow (w0.heap.size + 3) 49 11 (.slice A i c) i (rows us) ∧ us.length = i ∧
    ∀ k (h : k < us.length), PlainV us[k] ∧ OwnV (w0.heap.size + 3) W us[k] ∧ ∃ v, s.vs[k]? = some v ∧ us[k].c = v.c
theorem CSt.later {w0 W W' : World} {s : Ss} {i : Nat} (h : CSt w0 s i W) (hb : Below W.heap.size W W') : CSt w0 s i W' := by
  have hs := h.size
  have hg : w0.heap.size + 2 < W.heap.size := hs
  refine ⟨h.below.trans (hb.mono (by omega)), h.k1.later hb, h.k2.later hb, Nat.lt_of_lt_of_le hs hb.size, kc hb hg h.c0, kc hb hg h.c2, fz hb hg h.fro, ?_⟩
  obtain ⟨A, c, us, h1, h2, h3, h4⟩ := h.out
  exact ⟨A, c, us, kc hb hg h1, own_later h2 hb, h3, fun k hk => ⟨(h4 k hk).1, (h4 k hk).2.1.later hb, (h4 k hk).2.2⟩⟩
theorem Blk.grew {w w' : World} {g : Nat} {cs : List Value} {row : Option Nat} (h : Blk w g cs) (hg : w.grownBy w' row) (hne : some g ≠ row) : Blk w' g cs :=
  ⟨Nat.lt_of_lt_of_le h.1 hg.size, fun j u hu => ⟨hg.cell (a := ⟨g, j, none⟩) (h.2 j u hu).1 hne, by
    have := (h.2 j u hu).2
    unfold World.frozen? at *
    rw [hg.block g h.1 hne]; exact this⟩⟩
theorem CSt.push {w0 W W1 : World} {s : Ss} {i : Nat} {A A' : Option Addr} {c c' : Nat} {us : List Vv} (h : CSt w0 s i W) (ho : W.ownsRow (w0.heap.size + 3) 49 11 (.slice A i c) i (rows us)) (hu : us.length = i)
    (hall : ∀ k (h : k < us.length), PlainV us[k] ∧ OwnV (w0.heap.size + 3) W us[k] ∧ ∃ v, s.vs[k]? = some v ∧ us[k].c = v.c) {v u : Vv} (hq : s.vs[i]? = some v) (hv : PlainV u ∧ OwnV (w0.heap.size + 3) W u ∧ u.c = v.c)
    (hg : W.grownBy W1 (Value.slice A i c).ownBlock) (ho1 : W1.ownsRow (w0.heap.size + 3) 49 11 (.slice A' (i + 1) c') (i + 1) (rows us ++ u.row)) :
    CSt w0 s (i + 1) (W1.setCell ⟨w0.heap.size + 2, 1, none⟩ (.slice A' (i + 1) c')) := by
  have hs := h.size
  have hob : ∀ b, b < w0.heap.size + 3 → some b ≠ (Value.slice A i c).ownBlock := fun b hb e => by have := (ho.lt b e.symm).1; omega
  have hcell : ∀ {o : Nat} {x : Value}, W.cell? ⟨w0.heap.size + 2, o, none⟩ = some x → W1.cell? ⟨w0.heap.size + 2, o, none⟩ = some x := fun {o x} hx => hg.cell (a := ⟨w0.heap.size + 2, o, none⟩) hx (hob (w0.heap.size + 2) (by omega))
  have hn : ∀ o, o ≠ 1 → (⟨w0.heap.size + 2, 1, none⟩ : Addr) ≠ ⟨w0.heap.size + 2, o, none⟩ := fun o ho e => by injection e with _ e; omega
  have hsz := hg.size
  have hfz : W1.frozen? ⟨w0.heap.size + 2, 1, none⟩ = false := by
    have := h.fro
    unfold World.frozen? at *
    rw [hg.block (w0.heap.size + 2) hs (hob _ (by omega))]; exact this
  refine ⟨?_, (h.k1.grew hg (hob _ (by omega))).other (by omega) _, (h.k2.grew hg (hob _ (by omega))).other (by omega) _, by simp; omega, ?_, ?_, by simp [hfz], ?_⟩
  · have h1 : Below w0.heap.size w0 W1 := h.below.grown hg (by omega) (fun j hj => by have := (ho.lt j hj).1; omega)
    go_grown
  · rw [World.cell?_setCell_other _ _ _ _ (hn 0 (by omega))]; exact hcell h.c0
  · rw [World.cell?_setCell_other _ _ _ _ (hn 2 (by omega))]; exact hcell h.c2
  · obtain ⟨A2, c2, us2, h1, _⟩ := h.out
    have hc1 := hcell (o := 1) h1
    refine ⟨A', c', us ++ [u], by go_cell, own_set (by rw [rows_append]; simpa [rows] using ho1) (by omega) _, by simp [hu], fun k hk => ?_⟩
    by_cases hik : k < us.length
    · obtain ⟨x1, x2, x3⟩ := hall k hik
      rw [List.getElem_append_left hik]
      exact ⟨x1, (x2.grown ho hg).set (by omega) _, x3⟩
    · obtain rfl : k = i := by simp at hk; omega
      have e2 : (us ++ [u])[k] = u := by rw [List.getElem_append_right (by omega)]; simp
      rw [e2]
      exact ⟨hv.1, (hv.2.1.grown ho hg).set (by omega) _, v, hq, hv.2.2⟩
theorem own_cap {w : World} {base n s c : Nat} {e : TypeId} {A : Option Addr} {xs : List Value} (h : w.ownsRow base e s (.slice A n c) n xs) : n ≤ c ∧ c ≤ 9223372036854775807 := by
  obtain ⟨A2, c2, e, f1, f2, _⟩ := own_form h
  cases e
  exact ⟨f1, Nat.le_trans f2 (by decide)⟩
theorem Rd.of_cs {w : World} {B : Nat} {A : Option Addr} {l : List Cnt} (h : Cs w B A l) : Rd w B 2 A (flat l) l.length := Mg.rd_of_cs h
theorem frz_grown {w w' : World} {row : Option Nat} {b o : Nat} (hg : w.grownBy w' row) (hb : b < w.heap.size) (hne : some b ≠ row) (h : w.frozen? ⟨b, o, none⟩ = false) : w'.frozen? ⟨b, o, none⟩ = false := by
  unfold World.frozen? at *
  rw [hg.block b hb hne]; exact h
def CopyP (s : Ss) (w : World) (e : Ending) (w' : World) : Prop :=
  ∃ m : Ss, e = .returned m.v ∧ m.p = s.p ∧ m.r = s.r ∧ m.vs.map Vv.c = s.vs.map Vv.c ∧ (∀ v ∈ m.vs, PlainV v) ∧ OwnS w.heap.size w' m ∧ SAt m w' w'.heap.size ∧ Below w.heap.size w w'
theorem OwnS.sat {m : Ss} {w : World} {B : Nat} (h : OwnS B w m) (hp : ∀ v ∈ m.vs, PlainV v) (hc : m.vs.length ≤ m.c) (hm : m.c ≤ 9223372036854775807) (hl : m.vs.length ≤ 140737488355328) (hpp : -9223372036854775808 ≤ m.p ∧ m.p ≤ 9223372036854775807) (hr : 0 ≤ m.r ∧ m.r ≤ 18446744073709551615) : SAt m w w.heap.size := by
  obtain ⟨⟨c0, ho⟩, hv⟩ := h
  exact ⟨⟨Rd.of_own ho (fun g hg => (ho.lt g.block (by rw [hg]; rfl)).2), fun v hm => (hv v hm).vat (hp v hm)⟩, hpp, hc, hm, hl, hr⟩
set_option maxRecDepth 100000 in
set_option maxHeartbeats 4000000 in
theorem rcopy_any (s : Ss) (w : World) (h : SAt s w w.heap.size) (hn1 : s.vs.length ≤ 1048576) (hz : ∀ v ∈ s.vs, v.d.l.length ≤ 1048576 ∧ v.cs.length ≤ 1048576) :
    Calls Tryz.prog 21 #[s.v] w (CopyP s w) := by
  obtain ⟨iL, hiL, hL0, hL1, hL2⟩ := inf3 info_lab
  obtain ⟨iC, hiC, hC0, hC1, hC2⟩ := inf3 info_cnt
  obtain ⟨iV, hiV, hV0, hV1, hV2⟩ := inf3 infoVal
  have mkV := mk_row Tryz.underlying22 infoVal (by decide) s.vs.length hn1 (fun k => by rw [size_madeCells])
  have mkL := fun n hn => mk_row Tryz.underlying36 info_lab (by decide) n hn (fun k => by rw [size_madeCells])
  have mkC := fun n hn => mk_row Tryz.underlying46 info_cnt (by decide) n hn (fun k => by rw [size_madeCells])
  have hsf := fun (a : Addr) (x : Nat) (W : World) => run_store Tryz.prog W a (.float .f64 x) .plain rfl
  have hp := h.p
  have hr := h.r
  have h3 := fun (w1 : World) (e : w1 = _) => Blk.triple (w := w) (w1 := w1) (cs := snC s) (ds := zsn) (es := snC s) (T := 25) (U := 25) (X := 25) e
  unfold snC zsn at h3
  unfold Ss.v
  obtain ⟨n, hn⟩ : ∃ n, n = s.vs.length := ⟨_, rfl⟩
  rw [← hn] at hn1 mkV h3 ⊢
  have hnI : (n : Int) ≤ 1048576 := by omega
  obtain ⟨MV, hMV, mkV⟩ := mkV
  obtain ⟨Pst, hPst⟩ : ∃ P, P = CopyP s w := ⟨_, rfl⟩
  rw [← hPst]
  replace hPst := Lib.hid hPst
  replace h := Lib.hid h
  replace hn := Lib.hid hn
  replace h3 := Lib.hid h3
  replace hz := Lib.hid hz
  replace mkL := Lib.hid mkL
  replace mkC := Lib.hid mkC
  replace hp := Lib.hid hp
  replace hr := Lib.hid hr
  go_enter Tryz.func21, Tryz.ntmps21
  go_upto_region 2 with fail
  obtain ⟨w1, hw1⟩ : ∃ w1, w1 = (((w.alloc (.cells #[.int .i64 s.p, .slice s.A n s.c, .int .u64 s.r] 25)).alloc (.cells #[.int .i64 0, .slice none 0 0, .int .u64 0] 25)).alloc (.cells #[.int .i64 s.p, .slice s.A n s.c, .int .u64 s.r] 25)) := ⟨_, rfl⟩
  rw [← hw1]
  obtain ⟨k1, k2, k3, hb1⟩ := h3.out w1 hw1
  clear hw1 h3
  have x1 := (k1.2 1 _ rfl).1
  have y1 := (k3.2 1 _ rfl).1
  have fy1 := (k3.2 1 _ rfl).2
  have hs1 := k3.1
  go_upto_region 3 with fail
  have hst : CSt w s 0 ((w1.setCell ⟨w.heap.size + 1 + 1, 1, none⟩ (.slice (some ⟨w1.heap.size, 0, none⟩) 0 (n + 2))).alloc (.cells MV 49)) := by
    obtain ⟨wS, hwS⟩ : ∃ wS, wS = w1.setCell ⟨w.heap.size + 1 + 1, 1, none⟩ (.slice (some ⟨w1.heap.size, 0, none⟩) 0 (n + 2)) := ⟨_, rfl⟩
    have hsS : wS.heap.size = w1.heap.size := by rw [hwS]; simp
    have k1' : Blk wS w.heap.size [.int .i64 s.p, .slice s.A n s.c, .int .u64 s.r] := by rw [hwS]; exact k1.other (by omega) _
    have k2' : Blk wS (w.heap.size + 1) [.int .i64 0, .slice none 0 0, .int .u64 0] := by rw [hwS]; exact k2.other (by omega) _
    have k3' : Blk wS (w.heap.size + 1 + 1) [.int .i64 s.p, .slice (some ⟨w1.heap.size, 0, none⟩) 0 (n + 2), .int .u64 s.r] := by rw [hwS]; exact k3.set 1 _ (by simp)
    have hbS : Below w.heap.size w wS := by rw [hwS]; go_grown
    rw [← hwS]
    have hba : Below wS.heap.size wS (wS.alloc (.cells MV 49)) := (Below.refl _ _).alloc (Nat.le_refl _) _
    have k4 := k3'.later hba
    refine ⟨hbS.trans (hba.mono hbS.size), by unfold snC; rw [← hn.out]; exact k1'.later hba, by unfold zsn; exact k2'.later hba, by simp; omega, (k4.2 0 _ rfl).1, (k4.2 2 _ rfl).1, (k4.2 1 _ rfl).2, ?_⟩
    have ho := World.ownsRow_made (base := w.heap.size + 3) (e := 49) (size := 11) wS MV (n + 2) (by omega) (two_ok n hn1) hMV
    rw [hsS] at ho
    exact ⟨_, _, [], (k4.2 1 _ rfl).1, ho, rfl, fun k hk => absurd hk (by simp)⟩
  obtain ⟨w2, hw2⟩ : ∃ w2, w2 = ((w1.setCell ⟨w.heap.size + 1 + 1, 1, none⟩ (.slice (some ⟨w1.heap.size, 0, none⟩) 0 (n + 2))).alloc (.cells MV 49)) := ⟨_, rfl⟩
  rw [← hw2] at hst
  rw [← hw2]
  clear hw2 k1 k2 k3 x1 y1 fy1 hs1 hb1 mkV hMV
  replace hst := Lib.hid hst
  go_wp2
  go_loopw [4] (fun v wr => ∃ i : Nat, v = .int .i64 (i : Int) ∧ i ≤ n ∧ Hid (CSt w s i wr)) (fun v _ => n - (intOf v).toNat)
  case atStart => exact ⟨0, rfl, Nat.zero_le _, hst⟩
  case round =>
    clear hst
    obtain ⟨i, rfl, hi, hst⟩ := hrel
    have hs0 := hst.out.size
    have hbr := hst.out.below
    have b1 := (hst.out.k1.2 1 _ rfl).1
    rw [← hn.out] at b1
    by_cases hlt : i < n
    · have hil : i < s.vs.length := by rw [← hn.out]; exact hlt
      have gI : (i : Int) < (n : Int) := by omega
      have gI0 : (0 : Int) ≤ (i : Int) := by omega
      have vsr := h.out.vs.below hbr
      obtain ⟨b, off, hA, hbB, x0, x1, x2, x3, x4, x5, x6, x7, x8, x9, x10⟩ := vsr.cells i hil
      have hva := vsr.all s.vs[i] (List.getElem_mem hil)
      have hzz := hz.out s.vs[i] (List.getElem_mem hil)
      have hq : s.vs[i]? = some s.vs[i] := List.getElem?_eq_getElem hil
      obtain ⟨v, hv⟩ : ∃ v, v = s.vs[i] := ⟨_, rfl⟩
      rw [← hv] at x0 x1 x2 x3 x4 x5 x6 x7 x8 x9 x10 hva hzz hq
      rw [hA] at b1
      obtain ⟨nl, hnl⟩ : ∃ n, n = v.d.l.length := ⟨_, rfl⟩
      obtain ⟨nc, hnc⟩ : ∃ n, n = v.cs.length := ⟨_, rfl⟩
      rw [← hnl, ← hnc] at hzz
      rw [← hnl] at x3
      rw [← hnc] at x6
      obtain ⟨hz1, hz2⟩ := hzz
      obtain ⟨ML, hML, mkL1⟩ := mkL.out nl hz1
      obtain ⟨MC, hMC, mkC1⟩ := mkC.out nc hz2
      have nlI : (nl : Int) ≤ 1048576 := by omega
      have ncI : (nc : Int) ≤ 1048576 := by omega
      have hbw : b < wr.heap.size := by omega
      replace hv := Lib.hid hv
      replace hnl := Lib.hid hnl
      replace hnc := Lib.hid hnc
      replace hva := Lib.hid hva
      replace hq := Lib.hid hq
      replace hbr := Lib.hid hbr
      clear vsr hA
      have hnew := Blk.new wr [.int .i64 v.d.kind, .string v.d.name, .string v.d.help, .slice v.d.A nl v.d.c, .int .i64 (hiI v.t), .int .u64 (loI v.t), .slice v.CA nc v.cc, .int .u64 v.n, .float .f64 v.sm, .float .f64 v.mn, .float .f64 v.mx] 49
      go_upto_region 7 with fail
      obtain ⟨w3, hw3⟩ : ∃ w3, w3 = wr.alloc (.cells #[.int .i64 v.d.kind, .string v.d.name, .string v.d.help, .slice v.d.A nl v.d.c, .int .i64 (hiI v.t), .int .u64 (loI v.t), .slice v.CA nc v.cc, .int .u64 v.n, .float .f64 v.sm, .float .f64 v.mn, .float .f64 v.mx] 49) := ⟨_, rfl⟩
      have k3 : Blk w3 wr.heap.size [.int .i64 v.d.kind, .string v.d.name, .string v.d.help, .slice v.d.A nl v.d.c, .int .i64 (hiI v.t), .int .u64 (loI v.t), .slice v.CA nc v.cc, .int .u64 v.n, .float .f64 v.sm, .float .f64 v.mn, .float .f64 v.mx] := by rw [hw3]; exact hnew
      have hb3 : Below wr.heap.size wr w3 := by rw [hw3]; exact (Below.refl _ _).alloc (Nat.le_refl _) _
      have hs3 : w3.heap.size = wr.heap.size + 1 := by rw [hw3]; simp
      replace hs3 := Lib.hid hs3
      rw [← hw3]
      clear hw3 hnew x0 x1 x2 x3 x4 x5 x6 x7 x8 x9 x10 b1
      have z3 := (k3.2 3 _ rfl).1
      go_upto_region 8 with fail
      obtain ⟨w4, hw4⟩ : ∃ w4, w4 = w3.alloc (.cells ML 103) := ⟨_, rfl⟩
      have oL : w4.ownsRow (w3.heap.size) 103 2 (.slice (some ⟨w3.heap.size, 0, none⟩) 0 (nl + 2)) 0 [] := by rw [hw4]; exact World.ownsRow_made w3 ML (nl + 2) (Nat.le_refl _) (two_ok nl hz1) hML
      have hb4 : Below w3.heap.size w3 w4 := by rw [hw4]; exact (Below.refl _ _).alloc (Nat.le_refl _) _
      have hs4 : w4.heap.size = w3.heap.size + 1 := by rw [hw4]; simp
      replace hs4 := Lib.hid hs4
      rw [← hw4]
      clear hw4 z3
      have k4 := k3.later hb4
      have z6 := (k4.2 6 _ rfl).1
      go_upto_region 9 with fail
      obtain ⟨w5, hw5⟩ : ∃ w5, w5 = w4.alloc (.cells MC 54) := ⟨_, rfl⟩
      have oC : w5.ownsRow (w4.heap.size) 54 2 (.slice (some ⟨w4.heap.size, 0, none⟩) 0 (nc + 2)) 0 [] := by rw [hw5]; exact World.ownsRow_made w4 MC (nc + 2) (Nat.le_refl _) (two_ok nc hz2) hMC
      have hb5 : Below w4.heap.size w4 w5 := by rw [hw5]; exact (Below.refl _ _).alloc (Nat.le_refl _) _
      have hs5 : w5.heap.size = w4.heap.size + 1 := by rw [hw5]; simp
      replace hs5 := Lib.hid hs5
      rw [← hw5]
      clear hw5 z6
      have k5 := k4.later hb5
      have oL5 := own_later oL hb5
      have hb35 := hb3.trans ((hb4.trans (hb5.mono hb4.size)).mono hb3.size)
      have hs35 := hb35.size
      have hr1 : w.heap.size ≤ wr.heap.size := by omega
      have hr2 : w.heap.size ≤ w5.heap.size := Nat.le_trans hr1 hs35
      have rL : Rd w5 w5.heap.size 2 v.d.A (labs v.d.l) nl := by rw [hnl.out]; exact (hva.out.d.rd.below (hb35.mono hr1)).mono hr2
      have lo1 := labs_ok v.d.l
      have lo2 := flat_ok v.cs
      obtain ⟨xs, hxs⟩ : ∃ xs, xs = labs v.d.l := ⟨_, rfl⟩
      obtain ⟨ys, hys⟩ : ∃ ys, ys = flat v.cs := ⟨_, rfl⟩
      rw [← hxs] at rL lo1
      rw [← hys] at lo2
      replace hxs := Lib.hid hxs
      replace hys := Lib.hid hys
      have hbase6 : w3.heap.size ≤ w5.heap.size := (hb4.trans (hb5.mono hb4.size)).size
      have hne6 : some wr.heap.size ≠ (Value.slice (some ⟨w3.heap.size, 0, none⟩) 0 (nl + 2)).ownBlock := fun e => by
        have e : wr.heap.size = w3.heap.size := by simpa [Value.ownBlock] using e
        have := hs3.out
        omega
      clear k3 k4 oL mkL1 mkC1 hML hMC
      have z3 := (k5.2 3 _ rfl).1
      replace hne6 := Lib.hid hne6
      replace k5 := Lib.hid k5
      go_upto_region 10 with (at_builtin; refine wpList_append_rg rfl _ _ _ rfl w3.heap.size 103 Tryz.underlying36 hiL hL0 hL1 hL2 rfl (by decide) rfl oL5 rfl rL lo1 (len_ok nl hz1) (bytes_ok nl 32 hz1 (by decide)) hbase6 ?_; intro A6 c6 w6 o6 g6 e6; replace g6 : w5.grownBy w6 (Value.slice (some ⟨w3.heap.size, 0, none⟩) 0 (nl + 2)).ownBlock := g6; have k6 := k5.out.grew g6 hne6.out; have c63 := (k6.2 3 _ rfl).1; have f63 := (k6.2 3 _ rfl).2)
      obtain ⟨w7, hw7⟩ : ∃ w7, w7 = w6.setCell ⟨wr.heap.size, 3, none⟩ (.slice A6 nl c6) := ⟨_, rfl⟩
      rw [← hw7]
      clear c63 f63 z3 e6
      have hg3 : wr.heap.size < w3.heap.size := by have := hs3.out; omega
      have hg4 : wr.heap.size < w4.heap.size := by have := hs4.out; omega
      have k7 : Blk w7 wr.heap.size [.int .i64 v.d.kind, .string v.d.name, .string v.d.help, .slice A6 nl c6, .int .i64 (hiI v.t), .int .u64 (loI v.t), .slice v.CA nc v.cc, .int .u64 v.n, .float .f64 v.sm, .float .f64 v.mn, .float .f64 v.mx] := by rw [hw7]; exact k6.set 3 _ (by simp)
      have h6 : Below wr.heap.size wr w6 := hb35.grown g6 hs35 (fun j hj => by
        have e : w3.heap.size = j := by simpa [Value.ownBlock] using hj
        omega)
      have h7 : Below wr.heap.size wr w7 := by rw [hw7]; go_grown
      have s67 : w6.heap.size ≤ w7.heap.size := by rw [hw7]; simp
      have oL7 : w7.ownsRow w3.heap.size 103 2 (.slice A6 nl c6) nl xs := by rw [hw7]; exact own_set (by simpa using o6) hg3 _
      have oC7 : w7.ownsRow w4.heap.size 54 2 (.slice (some ⟨w4.heap.size, 0, none⟩) 0 (nc + 2)) 0 [] := by rw [hw7]; exact own_set (oC.kept g6 (own_apart oC oL5 (by decide))) hg4 _
      have hs7 := h7.size
      have hr7 : w.heap.size ≤ w7.heap.size := Nat.le_trans hr1 hs7
      have rC : Rd w7 w7.heap.size 2 v.CA ys nc := by rw [hnc.out, hys.out]; exact (Rd.of_cs (hva.out.cs.below (h7.mono hr1))).mono hr7
      have hbase7 : w4.heap.size ≤ w7.heap.size := by have := g6.size; have := hb5.size; omega
      have hne8 : some wr.heap.size ≠ (Value.slice (some ⟨w4.heap.size, 0, none⟩) 0 (nc + 2)).ownBlock := fun e => by
        have e : wr.heap.size = w4.heap.size := by simpa [Value.ownBlock] using e
        omega
      have z6 := (k7.2 6 _ rfl).1
      clear hw7 k6 h6 oL5 oC rL lo1 o6 g6 hbase6 s67
      replace hne6 := Lib.hid hne8
      clear hne8
      replace k7 := Lib.hid k7
      replace oL7 := Lib.hid oL7
      go_upto_region 11 with (at_builtin; refine wpList_append_rg rfl _ _ _ rfl w4.heap.size 54 Tryz.underlying46 hiC hC0 hC1 hC2 rfl (by decide) rfl oC7 rfl rC lo2 (len_ok nc hz2) (bytes_ok nc 16 hz2 (by decide)) hbase7 ?_; intro A8 c8 w8 o8 g8 e8; replace g8 : w7.grownBy w8 (Value.slice (some ⟨w4.heap.size, 0, none⟩) 0 (nc + 2)).ownBlock := g8; have k8 := k7.out.grew g8 hne6.out; have c86 := (k8.2 6 _ rfl).1; have f86 := (k8.2 6 _ rfl).2)
      obtain ⟨w9, hw9⟩ : ∃ w9, w9 = w8.setCell ⟨wr.heap.size, 6, none⟩ (.slice A8 nc c8) := ⟨_, rfl⟩
      rw [← hw9]
      clear c86 f86 z6 e8
      have k9 : Blk w9 wr.heap.size [.int .i64 v.d.kind, .string v.d.name, .string v.d.help, .slice A6 nl c6, .int .i64 (hiI v.t), .int .u64 (loI v.t), .slice A8 nc c8, .int .u64 v.n, .float .f64 v.sm, .float .f64 v.mn, .float .f64 v.mx] := by rw [hw9]; exact k8.set 6 _ (by simp)
      have h8 : Below wr.heap.size wr w8 := h7.grown g8 hs7 (fun j hj => by
        have e : w4.heap.size = j := by simpa [Value.ownBlock] using hj
        omega)
      have h9 : Below wr.heap.size wr w9 := by rw [hw9]; go_grown
      have oC9 : w9.ownsRow w4.heap.size 54 2 (.slice A8 nc c8) nc ys := by rw [hw9]; exact own_set (by simpa using o8) hg4 _
      have oL9 : w9.ownsRow w3.heap.size 103 2 (.slice A6 nl c6) nl xs := by rw [hw9]; exact own_set (oL7.out.kept g8 (own_apart oL7.out oC7 (by decide))) hg3 _
      have hc6 := own_cap oL9
      have hc8 := own_cap oC9
      clear hw9 k8 h8 oC7 oL7 rC lo2 o8 g8 hbase7 hne6 k5 k7
      have ht := hst.out.later h9
      obtain ⟨A, c, us, o1, o2, o3, o4⟩ := ht.out
      have of1 := ht.fro
      have hlx := ht.size
      obtain ⟨z0, z1, z2, z3, z4, z5, z6, z7, z8, z9, z10⟩ : (w9.cell? ⟨wr.heap.size, 0, none⟩ = some (.int .i64 v.d.kind) ∧ w9.cell? ⟨wr.heap.size, 1, none⟩ = some (.string v.d.name) ∧ w9.cell? ⟨wr.heap.size, 2, none⟩ = some (.string v.d.help) ∧ w9.cell? ⟨wr.heap.size, 3, none⟩ = some (.slice A6 nl c6) ∧ w9.cell? ⟨wr.heap.size, 4, none⟩ = some (.int .i64 (hiI v.t)) ∧ w9.cell? ⟨wr.heap.size, 5, none⟩ = some (.int .u64 (loI v.t)) ∧ w9.cell? ⟨wr.heap.size, 6, none⟩ = some (.slice A8 nc c8) ∧ w9.cell? ⟨wr.heap.size, 7, none⟩ = some (.int .u64 v.n) ∧ w9.cell? ⟨wr.heap.size, 8, none⟩ = some (.float .f64 v.sm) ∧ w9.cell? ⟨wr.heap.size, 9, none⟩ = some (.float .f64 v.mn) ∧ w9.cell? ⟨wr.heap.size, 10, none⟩ = some (.float .f64 v.mx)) :=
        ⟨(k9.2 0 _ rfl).1, (k9.2 1 _ rfl).1, (k9.2 2 _ rfl).1, (k9.2 3 _ rfl).1, (k9.2 4 _ rfl).1, (k9.2 5 _ rfl).1, (k9.2 6 _ rfl).1, (k9.2 7 _ rfl).1, (k9.2 8 _ rfl).1, (k9.2 9 _ rfl).1, (k9.2 10 _ rfl).1⟩
      have hpl : PlainV ⟨⟨v.d.kind, v.d.name, v.d.help, A6, c6, v.d.l⟩, v.t, A8, c8, v.cs, v.n, v.sm, v.mn, v.mx⟩ := by
        have p := hva.out.plain
        rw [hnl.out] at hc6
        rw [hnc.out] at hc8
        exact ⟨hc6.1, hc6.2, p.len2, p.name, p.help, p.texts, p.kind, p.ok, hc8.1, hc8.2, p.tot, p.n, p.sm, p.mn, p.mx⟩
      have how : OwnV (w.heap.size + 3) w9 ⟨⟨v.d.kind, v.d.name, v.d.help, A6, c6, v.d.l⟩, v.t, A8, c8, v.cs, v.n, v.sm, v.mn, v.mx⟩ := by
        rw [hnl.out, hxs.out] at oL9
        rw [hnc.out, hys.out] at oC9
        exact ⟨⟨_, own_base oL9 (by omega)⟩, _, own_base oC9 (by omega)⟩
      have hrow1 : (Vv.row ⟨⟨v.d.kind, v.d.name, v.d.help, A6, c6, v.d.l⟩, v.t, A8, c8, v.cs, v.n, v.sm, v.mn, v.mx⟩) = [.int .i64 v.d.kind, .string v.d.name, .string v.d.help, .slice A6 nl c6, .int .i64 (hiI v.t), .int .u64 (loI v.t), .slice A8 nc c8, .int .u64 v.n, .float .f64 v.sm, .float .f64 v.mn, .float .f64 v.mx] := by rw [hnl.out, hnc.out]; rfl
      have hgne : some (w.heap.size + 2) ≠ (Value.slice A i c).ownBlock := fun e => by have := (o2.lt _ e.symm).1; omega
      have hbz : w.heap.size + 3 ≤ w9.heap.size + 1 := by omega
      have hln : i + 1 ≤ maxLen := Nat.le_trans (Nat.le_trans hlt hn1) (by decide)
      have hby : (i + 1) * 136 ≤ 140737488355328 := Nat.le_trans (Nat.mul_le_mul (Nat.le_trans hlt hn1) (Nat.le_refl 136)) (by decide)
      have hal : ∀ ob, CSt w s i (w9.alloc ob) := fun ob => ht.later ((Below.refl _ _).alloc (Nat.le_refl _) ob)
      have hag : ∀ ob W', (w9.alloc ob).grownBy W' (Value.slice A i c).ownBlock → W'.cell? ⟨w.heap.size + 2, 1, none⟩ = some (.slice A i c) ∧ W'.frozen? ⟨w.heap.size + 2, 1, none⟩ = false := fun ob W' hg =>
        ⟨hg.cell (a := ⟨w.heap.size + 2, 1, none⟩) ((World.cell?_alloc_some w9 ⟨w.heap.size + 2, 1, none⟩ ob (by rw [o1]; rfl)).trans o1) hgne, frz_grown hg (hal ob).size hgne (hal ob).fro⟩
      clear oL9 oC9 hc6 hc8 h7 hg3 hg4 hs7 hr7 k9 hs0
      replace hpl := Lib.hid hpl
      replace how := Lib.hid how
      replace hrow1 := Lib.hid hrow1
      replace hgne := Lib.hid hgne
      replace o3 := Lib.hid o3
      replace o4 := Lib.hid o4
      replace ht := Lib.hid ht
      replace hal := Lib.hid hal
      replace hag := Lib.hid hag
      go_upto_region 5 with (at_builtin; refine wpList_append_rg rfl _ _ _ rfl (w.heap.size + 3) 49 Tryz.underlying22 hiV hV0 hV1 hV2 rfl (by decide) rfl (o2.alloc _) rfl (Rd.new w9 [.int .i64 v.d.kind, .string v.d.name, .string v.d.help, .slice A6 nl c6, .int .i64 (hiI v.t), .int .u64 (loI v.t), .slice A8 nc c8, .int .u64 v.n, .float .f64 v.sm, .float .f64 v.mn, .float .f64 v.mx] 49 11 1 rfl) (by simp [Value.oneCell']) hln hby (by simpa using hbz) ?_; intro A11 c11 w11 o11 g11 e11; replace g11 : (w9.alloc (.cells #[.int .i64 v.d.kind, .string v.d.name, .string v.d.help, .slice A6 nl c6, .int .i64 (hiI v.t), .int .u64 (loI v.t), .slice A8 nc c8, .int .u64 v.n, .float .f64 v.sm, .float .f64 v.mn, .float .f64 v.mx] 49)).grownBy w11 (Value.slice A i c).ownBlock := g11; obtain ⟨q1, q2⟩ := hag.out _ _ g11)
      have hfin : CSt w s (i + 1) (w11.setCell ⟨w.heap.size + 2, 1, none⟩ (.slice A11 (i + 1) c11)) := by
        have hb := (Below.refl w9.heap.size w9).alloc (Nat.le_refl _) (.cells #[.int .i64 v.d.kind, .string v.d.name, .string v.d.help, .slice A6 nl c6, .int .i64 (hiI v.t), .int .u64 (loI v.t), .slice A8 nc c8, .int .u64 v.n, .float .f64 v.sm, .float .f64 v.mn, .float .f64 v.mx] 49)
        refine (hal.out _).push (o2.alloc _) o3.out (fun k hk => ?_) hq.out ⟨hpl.out, how.out.later hb, rfl⟩ g11 (by rw [hrow1.out]; exact o11)
        obtain ⟨y1, y2, y3⟩ := o4.out k hk
        exact ⟨y1, y2.later hb, y3⟩
      replace hfin := Lib.hid hfin
      clear g11 o11 e11 q1 q2
      go_wp2
      exact ⟨⟨i + 1, by go_num, hlt, hfin⟩, by simp [intOf]; omega⟩
    · obtain rfl : i = n := by omega
      obtain ⟨A, c, us, o1, o2, o3, o4⟩ := hst.out.out
      have k2 := hst.out.k2
      unfold zsn at k2
      have q0 := hst.out.c0
      have q2 := hst.out.c2
      have z0 := (k2.2 0 _ rfl).1
      have z1 := (k2.2 1 _ rfl).1
      have z2 := (k2.2 2 _ rfl).1
      have f0 := (k2.2 0 _ rfl).2
      have f1 := (k2.2 1 _ rfl).2
      have f2 := (k2.2 2 _ rfl).2
      have hcp := own_cap o2
      have hmv : (⟨s.p, A, c, us, s.r⟩ : Ss).v = .agg #[.int .i64 s.p, .slice A i c, .int .u64 s.r] := by unfold Ss.v; dsimp only; rw [o3]
      have hmc : us.map Vv.c = s.vs.map Vv.c := by
        apply List.ext_getElem
        · rw [List.length_map, List.length_map, o3, hn.out]
        · intro k h1 h2
          have hk : k < us.length := by simpa using h1
          obtain ⟨_, _, v, e1, e2⟩ := o4 k hk
          have hk2 : k < s.vs.length := by simpa using h2
          rw [List.getElem?_eq_getElem hk2] at e1
          cases e1
          simp [e2]
      have hfin : ∀ (x0 x1 x2 : Value), Below w.heap.size w (((wr.setCell ⟨w.heap.size + 1, 0, none⟩ x0).setCell ⟨w.heap.size + 1, 1, none⟩ x1).setCell ⟨w.heap.size + 1, 2, none⟩ x2) ∧ (∀ v ∈ us, PlainV v) ∧
          OwnS w.heap.size (((wr.setCell ⟨w.heap.size + 1, 0, none⟩ x0).setCell ⟨w.heap.size + 1, 1, none⟩ x1).setCell ⟨w.heap.size + 1, 2, none⟩ x2) ⟨s.p, A, c, us, s.r⟩ := fun x0 x1 x2 => by
        refine ⟨by have := hst.out.below; go_grown, fun v hv => ?_, ⟨c, ?_⟩, fun v hv => ?_⟩
        · obtain ⟨k, hk, rfl⟩ := List.mem_iff_getElem.1 hv
          exact (o4 k hk).1
        · dsimp only
          rw [o3]
          exact own_base (own_set (own_set (own_set o2 (by omega) _) (by omega) _) (by omega) _) (by omega)
        · obtain ⟨k, hk, rfl⟩ := List.mem_iff_getElem.1 hv
          exact ((((o4 k hk).2.1.set (by omega) _).set (by omega) _).set (by omega) _).base (by omega)
      replace hmv := Lib.hid hmv
      replace hmc := Lib.hid hmc
      replace hfin := Lib.hid hfin
      replace o2 := Lib.hid o2
      replace o3 := Lib.hid o3
      replace o4 := Lib.hid o4
      replace hcp := Lib.hid hcp
      clear hlt
      go_wp2
      try simp only [Exit.inBlock, Exit.then]
      refine bodyPost_ret (retS rfl rfl (k2.st3 rfl _ _ _)) rfl ?_
      rw [hPst.out]
      have hfo := hfin.out (.int .i64 s.p) (.slice A i c) (.int .u64 s.r)
      refine ⟨⟨s.p, A, c, us, s.r⟩, ?_, rfl, rfl, hmc.out, hfo.2.1, hfo.2.2, hfo.2.2.sat hfo.2.1 ?_ ?_ ?_ hp.out hr.out, hfo.1⟩
      · rw [hmv.out]
      · show us.length ≤ c
        rw [o3.out]; exact hcp.out.1
      · exact hcp.out.2
      · show us.length ≤ _
        rw [o3.out]
        exact Nat.le_trans hn1 (by decide)
end Go.Proofs.YtpiegngjpnpohaaGreat.Sn
