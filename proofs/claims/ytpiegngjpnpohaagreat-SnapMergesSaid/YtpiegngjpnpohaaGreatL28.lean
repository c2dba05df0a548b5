/- Lemmas for the laws of this seat, laid together of SnP, SnW, SnX. -/
import Derived.Test.YtpiegngjpnpohaaGreatL25
import Derived.Test.YtpiegngjpnpohaaGreatL27

namespace Go.Proofs.YtpiegngjpnpohaaGreat.Sn
open Go.RowKit Go.Proofs.YtpiegngjpnpohaaGreat.La Go.Proofs.YtpiegngjpnpohaaGreat.Sl Go.Proofs.YtpiegngjpnpohaaGreat.Ck Go.Proofs.YtpiegngjpnpohaaGreat.Rc Go.Proofs.YtpiegngjpnpohaaGreat.Rk Go.Proofs.YtpiegngjpnpohaaGreat.Wi Go.Proofs.YtpiegngjpnpohaaGreat.Fb Go.Proofs.YtpiegngjpnpohaaGreat.Mg Go.Proofs.YtpiegngjpnpohaaGreat.St
set_option linter.unusedVariables false
theorem mz_mem : ∀ (xs ys : List Vv) (q : Option Vv × Option Vv), q ∈ mz xs ys → (∃ x ∈ xs, q = (some x, none)) ∨ (∃ y ∈ ys, q = (none, some y)) ∨ (∃ x ∈ xs, ∃ y ∈ ys, q = (some x, some y) ∧ cmpD x.d y.d = 0) := by
  intro xs ys
  induction xs, ys using mz.induct with
  | case1 ys =>
    intro q hq
    rw [mz_nilL] at hq
    obtain ⟨y, hy, rfl⟩ := List.mem_map.1 hq
    exact .inr (.inl ⟨y, hy, rfl⟩)
  | case2 x xs =>
    intro q hq
    rw [mz_nilR] at hq
    obtain ⟨y, hy, rfl⟩ := List.mem_map.1 hq
    exact .inl ⟨y, hy, rfl⟩
  | case3 x xs y ys h ih =>
    intro q hq
    rw [mz_left (.inr ⟨_, _, rfl, h⟩)] at hq
    rcases List.mem_cons.1 hq with rfl | hq
    · exact .inl ⟨x, by simp, rfl⟩
    · rcases ih q hq with ⟨a, ha, e⟩ | ⟨a, ha, e⟩ | ⟨a, ha, b, hb, e⟩
      · exact .inl ⟨a, by simp [ha], e⟩
      · exact .inr (.inl ⟨a, ha, e⟩)
      · exact .inr (.inr ⟨a, by simp [ha], b, hb, e⟩)
  | case4 x xs y ys h h2 ih =>
    intro q hq
    rw [mz_right (.inr ⟨_, _, rfl, h2⟩)] at hq
    rcases List.mem_cons.1 hq with rfl | hq
    · exact .inr (.inl ⟨y, by simp, rfl⟩)
    · rcases ih q hq with ⟨a, ha, e⟩ | ⟨a, ha, e⟩ | ⟨a, ha, b, hb, e⟩
      · exact .inl ⟨a, ha, e⟩
      · exact .inr (.inl ⟨a, by simp [ha], e⟩)
      · exact .inr (.inr ⟨a, ha, b, by simp [hb], e⟩)
  | case5 x xs y ys h h2 ih =>
    intro q hq
    rw [mz_both (by omega)] at hq
    rcases List.mem_cons.1 hq with rfl | hq
    · exact .inr (.inr ⟨x, by simp, y, by simp, rfl, by omega⟩)
    · rcases ih q hq with ⟨a, ha, e⟩ | ⟨a, ha, e⟩ | ⟨a, ha, b, hb, e⟩
      · exact .inl ⟨a, by simp [ha], e⟩
      · exact .inr (.inl ⟨a, by simp [ha], e⟩)
      · exact .inr (.inr ⟨a, by simp [ha], b, by simp [hb], e⟩)
noncomputable def mrgE (a b : Ss) : Int :=
  if (chkS a.p a.vs).1 ≠ 0 then (chkS a.p a.vs).1 else if (chkS b.p b.vs).1 ≠ 0 then (chkS b.p b.vs).1 else if a.p ≠ b.p ∨ unlikeB a.vs b.vs = true then 12
  else if 256 < (mz a.vs b.vs).length then 3 else if firstE (mz a.vs b.vs) ≠ 0 then firstE (mz a.vs b.vs) else if IntKind.u64.wrap (a.r + b.r) < a.r then 3 else 0
def zeroS : Ss := ⟨0, none, 0, [], 0⟩
theorem zeroS_v : zeroS.v = .agg #[.int .i64 0, .slice none 0 0, .int .u64 0] := rfl
def MrgC (a b s : Ss) : Prop := (mrgE a b ≠ 0 → s = zeroS) ∧ (mrgE a b = 0 → s.p = a.p ∧ s.r = IntKind.u64.wrap (a.r + b.r) ∧ s.vs.map Vv.c = (mz a.vs b.vs).map outP)
def OwnS (B : Nat) (w : World) (s : Ss) : Prop := (∃ c0, w.ownsRow B 49 11 (.slice s.A s.vs.length c0) s.vs.length (rows s.vs)) ∧ ∀ v ∈ s.vs, OwnV B w v
def MrgP (a b : Ss) (w : World) (e : Ending) (w' : World) : Prop :=
  Below w.heap.size w w' ∧ ∃ s : Ss, e = .returned (.tuple #[s.v, .int .i64 (mrgE a b)]) ∧ SAt s w' w'.heap.size ∧ OwnS w.heap.size w' s ∧ MrgC a b s
theorem zeroS_at (w : World) (B : Nat) : SAt zeroS w B := ⟨⟨⟨by decide, fun h => absurd h (by decide)⟩, by intro v hv; cases hv⟩, by decide, by decide, by decide, by decide, by decide⟩
theorem zeroS_own (w : World) (B : Nat) : OwnS B w zeroS := ⟨⟨0, own_nil w B _ _⟩, by intro v hv; cases hv⟩
theorem retSE {fn : Func} {p q : Tmp} {g : Nat} {x0 x1 x2 : Value} {E : Int} {tmps : Array Value} {w : World} (h : fn.results = #[.cell p 25, .tmp q]) (hp : tmps[p]?.getD undef = .pointer (some ⟨g, 0, none⟩)) (hq : tmps[q]?.getD undef = .int .i64 E)
    (hb : Blk w g [x0, x1, x2]) : (results fn tmps).run Tryz.prog w = .ok (.tuple #[.agg #[x0, x1, x2], .int .i64 E]) w := by
  have h0 := (hb.2 0 _ rfl).1
  have h1 := (hb.2 1 _ rfl).1
  have h2 := (hb.2 2 _ rfl).1
  simp [results, h, hp, hq, go_sem, h0, h1, h2]
theorem Blk.st3 {W : World} {g : Nat} {cs : List Value} (h : Blk W g cs) (hl : cs.length = 3) (x0 x1 x2 : Value) : Blk (((W.setCell ⟨g, 0, none⟩ x0).setCell ⟨g, 1, none⟩ x1).setCell ⟨g, 2, none⟩ x2) g [x0, x1, x2] := by
  match cs, hl with
  | [c0, c1, c2], _ =>
    have q := ((h.set 0 x0 (by simp)).set 1 x1 (by simp)).set 2 x2 (by simp)
    simpa only [List.set_cons_zero, List.set_cons_succ] using q
def snC (s : Ss) : List Value := [.int .i64 s.p, .slice s.A s.vs.length s.c, .int .u64 s.r]
def zsn : List Value := [.int .i64 0, .slice none 0 0, .int .u64 0]
structure Bx3 (w : World) (a b : Ss) (W : World) : Prop where
  k1 : Blk W w.heap.size (snC a)
  k2 : Blk W (w.heap.size + 1) (snC b)
  k3 : Blk W (w.heap.size + 1 + 1) zsn
  below : Below w.heap.size w W
theorem Bx3.later {w W W' : World} {a b : Ss} (h : Bx3 w a b W) (hb : Below W.heap.size W W') : Bx3 w a b W' := ⟨h.k1.later hb, h.k2.later hb, h.k3.later hb, h.below.trans (hb.mono h.below.size)⟩
theorem Bx3.set {w W : World} {a b : Ss} (h : Bx3 w a b W) {g o : Nat} (hg : w.heap.size + 1 + 1 < g) (u : Value) : Bx3 w a b (W.setCell ⟨g, o, none⟩ u) :=
  ⟨h.k1.other (by omega) _, h.k2.other (by omega) _, h.k3.other (by omega) _, by have := h.below; go_grown⟩
theorem OwnS.base {B B' : Nat} {w : World} {s : Ss} (h : OwnS B w s) (k : B' ≤ B) : OwnS B' w s := ⟨by obtain ⟨c0, h1⟩ := h.1; exact ⟨c0, own_base h1 k⟩, fun v hv => (h.2 v hv).base k⟩
theorem MSt.snap {w0 W : World} {B0 g : Nat} {p r : Int} {L : List (Option Vv × Option Vv)} (h : MSt w0 B0 g p r L L.length 0 W) (hp : -9223372036854775808 ≤ p ∧ p ≤ 9223372036854775807) (hr : 0 ≤ r ∧ r ≤ 18446744073709551615) (hl : L.length ≤ 140737488355328) :
    ∃ s : Ss, s.p = p ∧ s.r = r ∧ W.cell? ⟨g, 1, none⟩ = some (.slice s.A s.vs.length s.c) ∧ s.vs.map Vv.c = L.map outP ∧ ∀ (b : Nat) (x0 x1 x2 : Value), b < g + 2 →
      SAt s (((W.setCell ⟨b, 0, none⟩ x0).setCell ⟨b, 1, none⟩ x1).setCell ⟨b, 2, none⟩ x2) (((W.setCell ⟨b, 0, none⟩ x0).setCell ⟨b, 1, none⟩ x1).setCell ⟨b, 2, none⟩ x2).heap.size ∧ OwnS (g + 2) (((W.setCell ⟨b, 0, none⟩ x0).setCell ⟨b, 1, none⟩ x1).setCell ⟨b, 2, none⟩ x2) s := by
  obtain ⟨A, c, us, h1, h2, h3, h4⟩ := h.out
  have h4 := h4 rfl
  refine ⟨⟨p, A, c, us, r⟩, rfl, rfl, by dsimp only; rw [h3]; exact h1, ?_, fun b x0 x1 x2 hb => ?_⟩
  · dsimp only
    apply List.ext_getElem
    · simp [h3]
    · intro i hi1 hi2
      have hiu : i < us.length := by simpa using hi1
      have hiL : i < L.length := by simpa using hi2
      obtain ⟨_, _, q, e1, e2⟩ := h4 i hiu
      rw [List.getElem?_eq_getElem hiL] at e1
      cases e1
      simp [e2]
  · have ho : (((W.setCell ⟨b, 0, none⟩ x0).setCell ⟨b, 1, none⟩ x1).setCell ⟨b, 2, none⟩ x2).ownsRow (g + 2) 49 11 (.slice A L.length c) L.length (rows us) := own_set (own_set (own_set h2 hb x0) hb x1) hb x2
    have hv : ∀ v ∈ us, PlainV v ∧ OwnV (g + 2) (((W.setCell ⟨b, 0, none⟩ x0).setCell ⟨b, 1, none⟩ x1).setCell ⟨b, 2, none⟩ x2) v := fun v hv => by
      obtain ⟨i, hi, rfl⟩ := List.mem_iff_getElem.1 hv
      obtain ⟨e1, e2, _⟩ := h4 i hi
      exact ⟨e1, ((e2.set hb x0).set hb x1).set hb x2⟩
    obtain ⟨A2, c2, e, f1, f2, _⟩ := own_form ho
    cases e
    rw [← h3] at ho f1
    refine ⟨⟨⟨Rd.of_own ho (fun g' hg => (ho.lt g'.block (by have hg' : A = some g' := hg; rw [hg']; rfl)).2), fun v hv' => (hv v hv').2.vat (hv v hv').1⟩, hp, f1, f2, by dsimp only; omega, hr⟩, ⟨c, ho⟩, fun v hv' => (hv v hv').2⟩
theorem unlike_no {a b : List Vv} (h : unlikeB a b = false) {x y : Vv} (hx : x ∈ a) (hy : y ∈ b) (hn : x.d.name = y.d.name) : x.d.kind = y.d.kind ∧ x.d.help = y.d.help := by
  unfold unlikeB at h
  rw [List.any_eq_false] at h
  have h1 := h y hy
  unfold badV at h1
  rw [Bool.not_eq_true, List.any_eq_false] at h1
  have h2 := h1 x hx
  unfold alD at h2
  simp only [hn, decide_true, Bool.true_and, Bool.not_eq_true', decide_eq_false_iff_not, Decidable.not_not] at h2
  exact h2
theorem enter_merge1 (a : Array Value) (w : World) : (callFunc 56 a).run Tryz.prog w = .ok (.enter 56 a) w :=
  call_enter Tryz.func56 (by kernel_rfl) (by kernel_rfl) a w
theorem enter_merge2 (a : Array Value) (w : World) : (callFunc 57 a).run Tryz.prog w = .ok (.enter 57 a) w :=
  call_enter Tryz.func57 (by kernel_rfl) (by kernel_rfl) a w
structure Cnt1 (w : World) (a b : Ss) (g k : Nat) (W : World) : Prop where
  c : W.cell? ⟨g, 0, none⟩ = some (.int .i64 (k : Int))
  f : W.frozen? ⟨g, 0, none⟩ = false
  s : g < W.heap.size
  bx : Bx3 w a b W
theorem Cnt1.later {w W W' : World} {a b : Ss} {g k : Nat} (h : Cnt1 w a b g k W) (hb : Below W.heap.size W W') : Cnt1 w a b g k W' := ⟨kc hb h.s h.c, fz hb h.s h.f, Nat.lt_of_lt_of_le h.s hb.size, h.bx.later hb⟩
theorem count_all (a b : Ss) (w : World) (g : Nat) (hg : w.heap.size + 1 + 1 < g) (ha : SAt a w w.heap.size) (hb : SAt b w w.heap.size) (hla : a.vs.length ≤ 256) (hlb : b.vs.length ≤ 256) (W : World) (h0 : Cnt1 w a b g 0 W) :
    Calls Tryz.prog 54 #[.slice a.A a.vs.length a.c, .slice b.A b.vs.length b.c, .func (.func 55) #[] #[], .func (.func 56) #[] #[.pointer (some ⟨g, 0, none⟩)]] W fun e w' => e = .returned (.tuple #[]) ∧ Cnt1 w a b g (mz a.vs b.vs).length w' := by
  have hlen := mz_len a.vs b.vs
  exact merged_any 56 enter_merge1 #[.pointer (some ⟨g, 0, none⟩)] w w.heap.size (Nat.le_refl _) a.vs b.vs a.A b.A a.c b.c W (fun k W => Cnt1 w a b g k W) (fun k W W' h hb => h.later hb) (fun k W h => h.bx.below)
    (fun k x y px py W hk hI _ _ => by
      have hk' : k < (mz a.vs b.vs).length := (List.getElem?_eq_some_iff.1 hk).1
      refine (count_any g k px py W (by omega) hI.c hI.f).mono ?_
      rintro e w' ⟨rfl, rfl⟩
      refine ⟨rfl, ?_, by simp [hI.f], by simpa using hI.s, hI.bx.set hg _⟩
      have := hI.c
      go_cell) h0 ha.vs hb.vs ha.cap hb.cap ha.len hb.len
theorem lay_all (a b : Ss) (w0 : World) (g : Nat) (p r : Int) (ha : SAt a w0 w0.heap.size) (hb : SAt b w0 w0.heap.size) (ca : Chk a.p a.vs) (cb : Chk b.p b.vs) (hu : unlikeB a.vs b.vs = false) (hla : a.vs.length ≤ 256) (hlb : b.vs.length ≤ 256) (W : World)
    (h0 : MSt w0 w0.heap.size g p r (mz a.vs b.vs) 0 0 W) :
    Calls Tryz.prog 54 #[.slice a.A a.vs.length a.c, .slice b.A b.vs.length b.c, .func (.func 55) #[] #[], .func (.func 57) #[] #[.pointer (some ⟨g, 0, none⟩), .pointer (some ⟨g + 1, 0, none⟩)]] W fun e w' => e = .returned (.tuple #[]) ∧ MSt w0 w0.heap.size g p r (mz a.vs b.vs) (mz a.vs b.vs).length (firstE (mz a.vs b.vs)) w' := by
  have hlen := mz_len a.vs b.vs
  have oka : ∀ v ∈ a.vs, OkV v := fun v hv => okV_of (ha.vs.all v hv).plain (ca.each v hv).1 (ca.each v hv).2
  have okb : ∀ v ∈ b.vs, OkV v := fun v hv => okV_of (hb.vs.all v hv).plain (cb.each v hv).1 (cb.each v hv).2
  have hmain := merged_any 57 enter_merge2 #[.pointer (some ⟨g, 0, none⟩), .pointer (some ⟨g + 1, 0, none⟩)] w0 w0.heap.size (Nat.le_refl _) a.vs b.vs a.A b.A a.c b.c W (fun k W => MSt w0 w0.heap.size g p r (mz a.vs b.vs) k (firstE ((mz a.vs b.vs).take k)) W) (fun k W W' h hb => h.later hb) (fun k W h => h.below)
    (fun k x y px py W hk hI hx hy => by
      have hk' : k < (mz a.vs b.vs).length := (List.getElem?_eq_some_iff.1 hk).1
      have hft := firstE_take hk
      have hmem := mz_mem a.vs b.vs (x, y) (List.mem_of_getElem? hk)
      rcases hmem with ⟨u, hu1, e⟩ | ⟨u, hu1, e⟩ | ⟨u, hu1, v, hv1, e, hz⟩
      · cases e
        have ok := oka u hu1
        cases hy
        have e0 : firstE ((mz a.vs b.vs).take (k + 1)) = firstE ((mz a.vs b.vs).take k) := by
          rw [hft]; unfold errP; split <;> simp_all
        rw [e0]
        exact lay1_any w0 w0.heap.size g p r _ _ k W px u hI hx hk (by omega) (Nat.le_trans ok.l (by decide)) (Nat.le_trans ok.c (by decide))
      · cases e
        have ok := okb u hu1
        cases hx
        have e0 : firstE ((mz a.vs b.vs).take (k + 1)) = firstE ((mz a.vs b.vs).take k) := by
          rw [hft]; unfold errP; split <;> simp_all
        rw [e0]
        exact lay2_any w0 w0.heap.size g p r _ _ k W py u hI hy hk (by omega) (Nat.le_trans ok.l (by decide)) (Nat.le_trans ok.c (by decide))
      · cases e
        rw [hft]
        exact lay3_any w0 w0.heap.size g p r _ _ k W px py u v hI hx hy hk (by omega) (oka u hu1) (okb v hv1) (unlike_no hu hu1 hv1 ((cmpD_zero _ _).1 hz).1).1) (by exact h0) ha.vs hb.vs ha.cap hb.cap ha.len hb.len
  refine hmain.mono ?_
  rintro e w' ⟨rfl, h⟩
  rw [List.take_length] at h
  exact ⟨rfl, h⟩
set_option maxRecDepth 100000 in
set_option maxHeartbeats 4000000 in
theorem merge_any' (a b : Ss) (w : World) (ha : SAt a w w.heap.size) (hb : SAt b w w.heap.size) :
    Calls Tryz.prog 15 #[a.v, b.v] w (MrgP a b w) := by
  have cck := fun (t : Ss) (W : World) (k : Below w.heap.size w W) (h : SAt t w w.heap.size) => check_any t W ((h.below k).mono k.size)
  have hE : mrgE a b = if (chkS a.p a.vs).1 ≠ 0 then (chkS a.p a.vs).1 else if (chkS b.p b.vs).1 ≠ 0 then (chkS b.p b.vs).1 else if a.p ≠ b.p ∨ unlikeB a.vs b.vs = true then 12
    else if 256 < (mz a.vs b.vs).length then 3 else if firstE (mz a.vs b.vs) ≠ 0 then firstE (mz a.vs b.vs) else if IntKind.u64.wrap (a.r + b.r) < a.r then 3 else 0 := rfl
  have hbad : mrgE a b ≠ 0 → ∀ (w' : World), Below w.heap.size w w' → MrgP a b w (.returned (.tuple #[zeroS.v, .int .i64 (mrgE a b)])) w' := fun e w' hb => ⟨hb, zeroS, rfl, zeroS_at _ _, zeroS_own _ _, fun _ => rfl, fun h => absurd h e⟩
  have h3 := fun (w1 : World) (e : w1 = _) => Blk.triple (w := w) (w1 := w1) (cs := snC a) (ds := snC b) (es := zsn) (T := 25) (U := 25) (X := 25) e
  unfold snC zsn at h3
  obtain ⟨E, hEE⟩ : ∃ E, E = mrgE a b := ⟨_, rfl⟩
  obtain ⟨ea, hea⟩ : ∃ ea, ea = chkS a.p a.vs := ⟨_, rfl⟩
  obtain ⟨eb, heb⟩ : ∃ eb, eb = chkS b.p b.vs := ⟨_, rfl⟩
  have cka := fun W k => cck a W k ha
  have ckb := fun W k => cck b W k hb
  rw [← hea] at cka
  rw [← heb] at ckb
  rw [← hea, ← heb, ← hEE] at hE
  rw [← hEE] at hbad
  have hpost : MrgP a b w = MrgP a b w := rfl
  obtain ⟨Pst, hPst⟩ : ∃ P, P = MrgP a b w := ⟨_, rfl⟩
  rw [← hPst] at hbad ⊢
  unfold Ss.v at cka ckb ⊢
  obtain ⟨na, hna⟩ : ∃ n, n = a.vs.length := ⟨_, rfl⟩
  obtain ⟨nb, hnb⟩ : ∃ n, n = b.vs.length := ⟨_, rfl⟩
  rw [← hna] at cka h3 ⊢
  rw [← hnb] at ckb h3 ⊢
  obtain ⟨ea1, ea2⟩ := ea
  obtain ⟨eb1, eb2⟩ := eb
  dsimp only at cka ckb hE
  replace hPst := Lib.hid hPst
  replace hE := Lib.hid hE
  replace hEE := Lib.hid hEE
  replace hbad := Lib.hid hbad
  replace cka := Lib.hid cka
  replace ckb := Lib.hid ckb
  replace h3 := Lib.hid h3
  replace hea := Lib.hid hea
  replace heb := Lib.hid heb
  replace hna := Lib.hid hna
  replace hnb := Lib.hid hnb
  replace ha := Lib.hid ha
  replace hb := Lib.hid hb
  clear cck hpost
  go_enter Tryz.func15, Tryz.ntmps15
  go_upto_region 1 with fail
  obtain ⟨w1, hw1⟩ : ∃ w1, w1 = (((w.alloc (.cells #[.int .i64 a.p, .slice a.A na a.c, .int .u64 a.r] 25)).alloc (.cells #[.int .i64 b.p, .slice b.A nb b.c, .int .u64 b.r] 25)).alloc (.cells #[.int .i64 0, .slice none 0 0, .int .u64 0] 25)) := ⟨_, rfl⟩
  rw [← hw1]
  obtain ⟨k1, k2, k3, hb1⟩ := h3.out w1 hw1
  clear hw1 h3
  have x0 := (k1.2 0 _ rfl).1
  have x1 := (k1.2 1 _ rfl).1
  have x2 := (k1.2 2 _ rfl).1
  have y0 := (k2.2 0 _ rfl).1
  have y1 := (k2.2 1 _ rfl).1
  have y2 := (k2.2 2 _ rfl).1
  have hs1 := k3.1
  go_wp2
  have hz2 := Blk.new w1 [.int .i64 a.p, .slice a.A na a.c, .int .u64 a.r, .int .i64 b.p, .slice b.A nb b.c, .int .u64 b.r] 25
  obtain ⟨w2, hw2⟩ : ∃ w2, w2 = w1.alloc (.cells #[.int .i64 a.p, .slice a.A na a.c, .int .u64 a.r, .int .i64 b.p, .slice b.A nb b.c, .int .u64 b.r] 25) := ⟨_, rfl⟩
  have k4 : Blk w2 w1.heap.size [.int .i64 a.p, .slice a.A na a.c, .int .u64 a.r, .int .i64 b.p, .slice b.A nb b.c, .int .u64 b.r] := by rw [hw2]; exact hz2
  have hb2 : Below w1.heap.size w1 w2 := by rw [hw2]; exact (Below.refl _ _).alloc (Nat.le_refl _) _
  rw [← hw2]
  clear hw2 hz2 x0 x1 x2 y0 y1 y2
  replace k1 := k1.later hb2
  replace k2 := k2.later hb2
  replace k3 := k3.later hb2
  have hbw2 := hb1.trans (hb2.mono hb1.size)
  have bx : Bx3 w a b w2 := ⟨by unfold snC; rw [← hna.out]; exact k1, by unfold snC; rw [← hnb.out]; exact k2, k3, hbw2⟩
  clear k1 k2 k3
  replace bx := Lib.hid bx
  replace k4 := Lib.hid k4
  go_loopw [17] (fun v wr => ∃ i : Nat, v = .int .i64 (i : Int) ∧ i ≤ 2 ∧ Below w2.heap.size w2 wr ∧ Hid (1 ≤ i → ea1 = 0) ∧ Hid (2 ≤ i → eb1 = 0)) (fun v _ => 3 - (intOf v).toNat)
  case atStart => exact ⟨0, rfl, by omega, Below.refl _ _, Lib.hid (fun h => absurd h (by omega)), Lib.hid (fun h => absurd h (by omega))⟩
  case round =>
    obtain ⟨i, rfl, hi, hbr, hi1, hi2⟩ := hrel
    have bxr := bx.out.later hbr
    have k4r := k4.out.later hbr
    have k3r := bxr.k3
    unfold zsn at k3r
    have hwr := bxr.below
    replace bxr := Lib.hid bxr
    by_cases hlt : i < 2
    · obtain ⟨t, e1, e2, n, hc, ccall, hcase⟩ : ∃ (t : Ss) (e1 e2 : Int) (n : Nat), (wr.cell? ⟨w1.heap.size, i * 3, none⟩ = some (.int .i64 t.p) ∧ wr.cell? ⟨w1.heap.size, i * 3 + 1, none⟩ = some (.slice t.A n t.c) ∧ wr.cell? ⟨w1.heap.size, i * 3 + 2, none⟩ = some (.int .u64 t.r)) ∧
          (∀ W, Below w.heap.size w W → Calls Tryz.prog 12 #[.agg #[.int .i64 t.p, .slice t.A n t.c, .int .u64 t.r]] W fun e w' => e = .returned (.tuple #[.int .i64 e1, .int .i64 e2]) ∧ Below W.heap.size W w') ∧ ((i = 0 ∧ e1 = ea1) ∨ (i = 1 ∧ e1 = eb1)) := by
        have : i = 0 ∨ i = 1 := by omega
        rcases this with rfl | rfl
        · exact ⟨a, ea1, ea2, na, ⟨(k4r.2 0 _ rfl).1, (k4r.2 1 _ rfl).1, (k4r.2 2 _ rfl).1⟩, cka.out, .inl ⟨rfl, rfl⟩⟩
        · exact ⟨b, eb1, eb2, nb, ⟨(k4r.2 3 _ rfl).1, (k4r.2 4 _ rfl).1, (k4r.2 5 _ rfl).1⟩, ckb.out, .inr ⟨rfl, rfl⟩⟩
      obtain ⟨x0, x1, x2⟩ := hc
      have gI : (i : Int) < 2 := by omega
      have gI0 : (0 : Int) ≤ (i : Int) := by omega
      replace ccall := Lib.hid ccall
      replace hcase := Lib.hid hcase
      clear k4r
      go_upto_region 4 with fail
      have hb3 : Below wr.heap.size wr (wr.alloc (.cells #[.int .i64 t.p, .slice t.A n t.c, .int .u64 t.r] 25)) := (Below.refl _ _).alloc (Nat.le_refl _) _
      have hk3 := Blk.new wr [.int .i64 t.p, .slice t.A n t.c, .int .u64 t.r] 25
      obtain ⟨w3, hw3⟩ : ∃ w3, w3 = wr.alloc (.cells #[.int .i64 t.p, .slice t.A n t.c, .int .u64 t.r] 25) := ⟨_, rfl⟩
      have hk : Blk w3 wr.heap.size [.int .i64 t.p, .slice t.A n t.c, .int .u64 t.r] := by rw [hw3]; exact hk3
      rw [← hw3] at hb3 ⊢
      clear hw3 hk3 x0 x1 x2
      have x0 := (hk.2 0 _ rfl).1
      have x1 := (hk.2 1 _ rfl).1
      have x2 := (hk.2 2 _ rfl).1
      have hbw3 := hwr.trans (hb3.mono hwr.size)
      go_wp2_with fail
      refine (ccall.out _ hbw3).mono ?_
      rintro e w4 ⟨rfl, hb4⟩
      clear x0 x1 x2 hk ccall
      have hb34 : Below wr.heap.size wr w4 := hb3.trans (hb4.mono hb3.size)
      have hbr4 : Below w2.heap.size w2 w4 := hbr.trans (hb34.mono hbr.size)
      have hbw4 := hwr.trans (hb34.mono hwr.size)
      replace k3r := k3r.later hb34
      by_cases he : e1 = 0
      · have ge : (e1 != 0) = false := by simpa using he
        have n1 : Hid (1 ≤ i + 1 → ea1 = 0) := Lib.hid fun _ => by
          rcases hcase.out with ⟨_, e⟩ | ⟨e, _⟩
          · exact e.symm.trans he
          · exact hi1.out (by omega)
        have n2 : Hid (2 ≤ i + 1 → eb1 = 0) := Lib.hid fun h => by
          rcases hcase.out with ⟨e, _⟩ | ⟨_, e⟩
          · omega
          · exact e.symm.trans he
        replace he := Lib.hid he
        go_wp2
        exact ⟨⟨i + 1, by simp, hlt, hbr4, n1, n2⟩, by simp [intOf]; omega⟩
      · have ge : (e1 != 0) = true := by simpa using he
        have hEe : E = e1 := by
          rw [hE.out]
          rcases hcase.out with ⟨_, e⟩ | ⟨h1, e⟩
          · rw [if_pos (by rw [← e]; exact he), e]
          · rw [if_neg (by rw [hi1.out (by omega)]; decide), if_pos (by rw [← e]; exact he), e]
        have hfin := hbad.out (by rw [hEe]; exact he)
        rw [hEe] at hfin
        replace hfin := Lib.hid hfin
        replace he := Lib.hid he
        replace hEe := Lib.hid hEe
        have r0 := (k3r.2 0 _ rfl).1
        have r1 := (k3r.2 1 _ rfl).1
        have r2 := (k3r.2 2 _ rfl).1
        have s0 := (k3r.2 0 _ rfl).2
        have s1 := (k3r.2 1 _ rfl).2
        have s2 := (k3r.2 2 _ rfl).2
        go_wp2
        try simp only [Exit.inBlock, Exit.then]
        refine bodyPost_ret (retSE rfl rfl rfl (k3r.st3 rfl _ _ _)) rfl ?_
        exact hfin.out _ (by have := hbw4; go_grown)
    · obtain rfl : i = 2 := by omega
      have z1 : ea1 = 0 := hi1.out (by omega)
      have z2 : eb1 = 0 := hi2.out (by omega)
      subst z1 z2
      clear hi1 hi2 k4r hlt hi
      have hca : (chkS a.p a.vs).1 = 0 := by rw [← hea.out]
      have hcb : (chkS b.p b.vs).1 = 0 := by rw [← heb.out]
      obtain ⟨ga, la, ca⟩ := (chkS_ok _ _).1 hca
      obtain ⟨gb, lb, cb⟩ := (chkS_ok _ _).1 hcb
      have sat := fun (W : World) (k : Below w.heap.size w W) => (ha.out.below k).mono k.size
      have sbt := fun (W : World) (k : Below w.heap.size w W) => (hb.out.below k).mono k.size
      obtain ⟨U, cU, hU⟩ : ∃ U : Bool, (∀ W, Below w.heap.size w W → Calls Tryz.prog 53 #[a.v, b.v] W fun e w' => e = .returned (.bool U) ∧ Below W.heap.size W w') ∧ (U = true ↔ a.p ≠ b.p ∨ unlikeB a.vs b.vs = true) := by
        by_cases hp : a.p = b.p
        · exact ⟨unlikeB a.vs b.vs, fun W k => unlike_eq a b W hp (sat W k) (sbt W k) ca.once, by simp [hp]⟩
        · exact ⟨true, fun W k => unlike_ne a b W hp, by simp [hp]⟩
      unfold Ss.v at cU
      rw [← hna.out, ← hnb.out] at cU
      have hE2 := hE.out
      rw [if_neg (by decide), if_neg (by decide)] at hE2
      have hp1 := ha.out.p
      have cc1 := fun (g : Nat) (hg : w.heap.size + 1 + 1 < g) (W : World) (h0 : Cnt1 w a b g 0 W) => count_all a b w g hg ha.out hb.out la lb W h0
      have cc2 := fun (W0 : World) (k : Below w.heap.size w W0) (g : Nat) (W : World) (hu : unlikeB a.vs b.vs = false) (h0 : MSt W0 W0.heap.size g a.p (IntKind.u64.wrap (a.r + b.r)) (mz a.vs b.vs) 0 0 W) => lay_all a b W0 g a.p (IntKind.u64.wrap (a.r + b.r)) (sat W0 k) (sbt W0 k) ca cb hu la lb W h0
      rw [← hna.out, ← hnb.out] at cc1 cc2
      have hlen := mz_len a.vs b.vs
      have hrr : 0 ≤ IntKind.u64.wrap (a.r + b.r) ∧ IntKind.u64.wrap (a.r + b.r) ≤ 18446744073709551615 := by rw [IntKind.wrap_u64]; omega
      have hmc : ∀ s : Ss, E = 0 → s.p = a.p → s.r = IntKind.u64.wrap (a.r + b.r) → s.vs.map Vv.c = (mz a.vs b.vs).map outP → MrgC a b s := fun s e h1 h2 h3 => ⟨fun h => absurd (hEE.out.symm.trans e) h, fun _ => ⟨h1, h2, h3⟩⟩
      replace hmc := Lib.hid hmc
      replace hrr := Lib.hid hrr
      replace cU := Lib.hid cU
      replace hU := Lib.hid hU
      replace cc1 := Lib.hid cc1
      replace cc2 := Lib.hid cc2
      replace hE2 := Lib.hid hE2
      replace hp1 := Lib.hid hp1
      replace sat := Lib.hid sat
      replace sbt := Lib.hid sbt
      replace ca := Lib.hid ca
      replace cb := Lib.hid cb
      replace hlen := Lib.hid hlen
      obtain ⟨N, hN⟩ : ∃ N, N = (mz a.vs b.vs).length := ⟨_, rfl⟩
      replace hN := Lib.hid hN
      clear cka ckb hca hcb ga gb hE hea heb k4
      have x1 := (bxr.out.k1.2 1 _ rfl).1
      have x0 := (bxr.out.k1.2 0 _ rfl).1
      have x2 := (bxr.out.k1.2 2 _ rfl).1
      have y1 := (bxr.out.k2.2 1 _ rfl).1
      have y0 := (bxr.out.k2.2 0 _ rfl).1
      have y2 := (bxr.out.k2.2 2 _ rfl).1
      rw [← hna.out] at x1
      rw [← hnb.out] at y1
      go_upto_region 8 with fail
      go_wp2_with fail
      refine (cU.out _ hwr).mono ?_
      rintro e w3 ⟨rfl, hb3⟩
      clear x0 x1 x2 y0 y1 y2 k3r cU
      have bx3 := bxr.out.later hb3
      have hw3 := bx3.below
      have k3 := bx3.k3
      unfold zsn at k3
      cases U
      · have hu2 : a.p = b.p ∧ unlikeB a.vs b.vs = false := by
          have := mt hU.out.2 (by decide)
          exact ⟨Decidable.not_not.1 fun h => this (.inl h), by cases h : unlikeB a.vs b.vs; rfl; exact absurd (.inr h) this⟩
        have hE3 := hE2.out
        rw [if_neg (fun h => absurd (hU.out.2 h) (by decide))] at hE3
        replace hE3 := Lib.hid hE3
        replace hu2 := Lib.hid hu2
        clear hE2 hU k3
        have x1 := (bx3.k1.2 1 _ rfl).1
        have y1 := (bx3.k2.2 1 _ rfl).1
        rw [← hna.out] at x1
        rw [← hnb.out] at y1
        have hg1 : w.heap.size + 1 + 1 < w3.heap.size := bx3.k3.1
        have hs1' := bx3.k1.1
        have hs2' := bx3.k2.1
        replace bx3 := Lib.hid bx3
        go_upto_region 11 with fail
        have hb4 : Below w3.heap.size w3 (w3.alloc (.cells #[.int .i64 0] 3)) := (Below.refl _ _).alloc (Nat.le_refl _) _
        have hk4 := Blk.new w3 [.int .i64 0] 3
        obtain ⟨w4, hw4⟩ : ∃ w4, w4 = w3.alloc (.cells #[.int .i64 0] 3) := ⟨_, rfl⟩
        have k4 : Blk w4 w3.heap.size [.int .i64 0] := by rw [hw4]; exact hk4
        rw [← hw4] at hb4 ⊢
        clear hw4 hk4
        have x1' := kc hb4 (by omega) x1
        have y1' := kc hb4 (by omega) y1
        clear x1 y1
        have c1 : Cnt1 w a b w3.heap.size 0 w4 := ⟨(k4.2 0 _ rfl).1, (k4.2 0 _ rfl).2, k4.1, bx3.out.later hb4⟩
        clear k4
        go_wp2_with fail
        refine (cc1.out w3.heap.size hg1 w4 c1).mono ?_
        rintro e w5 ⟨rfl, c5⟩
        clear x1' y1' c1 cc1
        have q0 := c5.c
        rw [← hN.out] at q0
        have hs5 := c5.bx.k3.1
        have k3 := c5.bx.k3
        unfold zsn at k3
        by_cases hn : 256 < N
        · have gn : (256 : Int) < (N : Int) := by omega
          have hE4 : E = 3 := by rw [hE3.out, if_pos (by rw [← hN.out]; exact hn)]
          have hfin := hbad.out (by rw [hE4]; decide)
          rw [hE4] at hfin
          have hw5 := c5.bx.below
          replace hfin := Lib.hid hfin
          replace hE4 := Lib.hid hE4
          replace c5 := Lib.hid c5
          have r0 := (k3.2 0 _ rfl).1
          have r1 := (k3.2 1 _ rfl).1
          have r2 := (k3.2 2 _ rfl).1
          have s0 := (k3.2 0 _ rfl).2
          have s1 := (k3.2 1 _ rfl).2
          have s2 := (k3.2 2 _ rfl).2
          go_wp2
          try simp only [Exit.inBlock, Exit.then]
          refine bodyPost_ret (retSE rfl rfl rfl (k3.st3 rfl _ _ _)) rfl ?_
          exact hfin.out _ (by have := hw5; go_grown)
        · have gn : ¬ (256 : Int) < (N : Int) := by omega
          have hE4 := hE3.out
          rw [if_neg (by rw [← hN.out]; exact hn)] at hE4
          have x0 := (c5.bx.k1.2 0 _ rfl).1
          have x1 := (c5.bx.k1.2 1 _ rfl).1
          have x2 := (c5.bx.k1.2 2 _ rfl).1
          have y1 := (c5.bx.k2.2 1 _ rfl).1
          have y2 := (c5.bx.k2.2 2 _ rfl).1
          rw [← hna.out] at x1
          rw [← hnb.out] at y1
          replace hE4 := Lib.hid hE4
          have hw5 := c5.bx.below
          have bx5 := c5.bx
          clear c5 k3 hE3
          have hl1 := bx5.k1.1
          have hl2 := bx5.k2.1
          replace bx5 := Lib.hid bx5
          go_upto_region 16 with fail
          clear x0 x1 x2 y1 y2 q0 hs5
          have hpp := fun (w6 : World) (e : w6 = _) => Blk.pair (w := w5) (w1 := w6) (cs := [.int .i64 a.p, .slice none 0 0, .int .u64 (IntKind.u64.wrap (a.r + b.r))]) (ds := [.int .i64 0]) (T := 25) (U := 26) e
          obtain ⟨w6, hw6⟩ : ∃ w6, w6 = ((w5.alloc (.cells #[.int .i64 a.p, .slice none 0 0, .int .u64 (IntKind.u64.wrap (a.r + b.r))] 25)).alloc (.cells #[.int .i64 0] 26)) := ⟨_, rfl⟩
          rw [← hw6]
          obtain ⟨j1, j2, hb6⟩ := hpp w6 hw6
          clear hw6 hpp
          have hM0 : MSt w5 w5.heap.size w5.heap.size a.p (IntKind.u64.wrap (a.r + b.r)) (mz a.vs b.vs) 0 0 w6 := ⟨hb6, Nat.le_refl _, j2.1, (j1.2 0 _ rfl).1, (j1.2 2 _ rfl).1, (j1.2 1 _ rfl).2, (j2.2 0 _ rfl).1, (j2.2 0 _ rfl).2, none, 0, [], (j1.2 1 _ rfl).1, own_nil _ _ _ _, rfl, fun _ i hi => absurd hi (by simp)⟩
          have hc2 := cc2.out w5 hw5 w5.heap.size w6 hu2.out.2 hM0
          have bx6 := bx5.out.later hb6
          have x1 := (bx6.k1.2 1 _ rfl).1
          have y1 := (bx6.k2.2 1 _ rfl).1
          rw [← hna.out] at x1
          rw [← hnb.out] at y1
          clear hM0 j1 j2 cc2 bx6
          replace hc2 := Lib.hid hc2
          go_wp2_with fail
          refine hc2.out.mono ?_
          rintro e w7 ⟨rfl, hM⟩
          clear x1 y1 hc2
          have bx7 := bx5.out.later hM.below
          have k3 := bx7.k3
          unfold zsn at k3
          have x2 := (bx7.k1.2 2 _ rfl).1
          have q2 := hM.c2
          have q0 := hM.c0
          have qw := hM.wr
          have qf := hM.frow
          have hsz7 := hM.size
          have hw7 := bx7.below
          obtain ⟨R, hR⟩ : ∃ R, R = IntKind.u64.wrap (a.r + b.r) := ⟨_, rfl⟩
          obtain ⟨F, hF⟩ : ∃ F, F = firstE (mz a.vs b.vs) := ⟨_, rfl⟩
          rw [← hF] at qw hE4 hM
          rw [← hR] at q2 hE4 hM hmc hrr
          have r0 := (k3.2 0 _ rfl).1
          have r1 := (k3.2 1 _ rfl).1
          have r2 := (k3.2 2 _ rfl).1
          have s0 := (k3.2 0 _ rfl).2
          have s1 := (k3.2 1 _ rfl).2
          have s2 := (k3.2 2 _ rfl).2
          have hne : ∀ o o', (⟨w.heap.size + 1 + 1, o, none⟩ : Addr) ≠ ⟨w5.heap.size + 1, o', none⟩ := fun o o' e => by have := congrArg Addr.block e; dsimp only at this; omega
          have hg5 : w.heap.size + 1 + 1 < w5.heap.size := bx5.out.k3.1
          replace hR := Lib.hid hR
          replace hF := Lib.hid hF
          replace hM := Lib.hid hM
          replace bx7 := Lib.hid bx7
          replace hne := Lib.hid hne
          by_cases hF0 : F = 0
          · have gF : (F == 0) = true := by simp [hF0]
            subst hF0
            by_cases hlt : R < a.r
            · have hE5 : E = 3 := by rw [hE4.out, if_neg (by decide), if_pos hlt]
              have hfin := hbad.out (by rw [hE5]; decide)
              rw [hE5] at hfin
              have hk3 := k3.other (b := w5.heap.size + 1) (i := 0) (by omega) (.int .i64 3)
              have hlt' : decide (R < a.r) = true := decide_eq_true hlt
              replace hfin := Lib.hid hfin
              replace hE5 := Lib.hid hE5
              clear hE4 hmc q0
              go_upto_region 20 with fail
              have t0 : (w7.setCell ⟨w5.heap.size + 1, 0, none⟩ (.int .i64 3)).cell? ⟨w5.heap.size + 1, 0, none⟩ = some (.int .i64 3) := by go_cell
              have hS : ∀ (v0 v1 v2 : Value), ((((w7.setCell ⟨w5.heap.size + 1, 0, none⟩ (.int .i64 3)).setCell ⟨w.heap.size + 1 + 1, 0, none⟩ v0).setCell ⟨w.heap.size + 1 + 1, 1, none⟩ v1).setCell ⟨w.heap.size + 1 + 1, 2, none⟩ v2).cell? ⟨w5.heap.size + 1, 0, none⟩ = some (.int .i64 3) := fun v0 v1 v2 => by
                rw [World.cell?_setCell_other _ _ _ _ (hne.out _ _), World.cell?_setCell_other _ _ _ _ (hne.out _ _), World.cell?_setCell_other _ _ _ _ (hne.out _ _)]; exact t0
              replace hS := Lib.hid hS
              go_region_held3 (fun Wx => Wx.cell? ⟨w5.heap.size + 1, 0, none⟩ = some (.int .i64 3)) (first | exact t0 | exact hS.out _ _ _) (first | fail)
              go_wp2_with fail
              try simp only [Exit.inBlock, Exit.then]
              refine bodyPost_ret (retSE rfl rfl rfl (hk3.st3 rfl _ _ _)) rfl ?_
              exact hfin.out _ (by have := hw7; go_grown)
            · have hE5 : E = 0 := by rw [hE4.out, if_neg (by decide), if_neg hlt]
              have hlt' : decide (R < a.r) = false := decide_eq_false hlt
              obtain ⟨s, e1, e2, e3, e4, e5⟩ := hM.out.snap hp1.out hrr.out (by rw [← hN.out]; omega)
              have hmm := hmc.out s hE5 e1 e2 e4
              have hee := fun x0 x1 x2 => e5 (w.heap.size + 1 + 1) x0 x1 x2 (by omega)
              have hsv : s.v = .agg #[.int .i64 a.p, .slice s.A s.vs.length s.c, .int .u64 R] := by unfold Ss.v; rw [e1, e2]
              obtain ⟨ns, hns⟩ : ∃ n, n = s.vs.length := ⟨_, rfl⟩
              rw [← hns] at e3 hsv
              have hE6 := hEE.out.symm.trans hE5
              replace hE5 := Lib.hid hE5
              replace hE6 := Lib.hid hE6
              replace hmm := Lib.hid hmm
              replace hee := Lib.hid hee
              replace hsv := Lib.hid hsv
              replace hns := Lib.hid hns
              clear hE4 hmc e1 e2 e4 e5
              go_wp2
              try simp only [Exit.inBlock, Exit.then]
              refine bodyPost_ret (retSE rfl rfl rfl (k3.st3 rfl _ _ _)) rfl ?_
              rw [hPst.out]
              refine ⟨by have := hw7; go_grown, s, ?_, (hee.out _ _ _).1, (hee.out _ _ _).2.base (by omega), hmm.out⟩
              rw [hsv.out, hE6.out]
          · have gF : (F == 0) = false := by simpa using hF0
            have gF2 : (F != 0) = true := by simpa using hF0
            have hE5 : E = F := by rw [hE4.out, if_pos hF0]
            have hfin := hbad.out (by rw [hE5]; exact hF0)
            rw [hE5] at hfin
            replace hfin := Lib.hid hfin
            replace hE5 := Lib.hid hE5
            replace hF0 := Lib.hid hF0
            clear hE4 hmc q0
            go_upto_region 20 with fail
            have hS : ∀ (v0 v1 v2 : Value), (((w7.setCell ⟨w.heap.size + 1 + 1, 0, none⟩ v0).setCell ⟨w.heap.size + 1 + 1, 1, none⟩ v1).setCell ⟨w.heap.size + 1 + 1, 2, none⟩ v2).cell? ⟨w5.heap.size + 1, 0, none⟩ = some (.int .i64 F) := fun v0 v1 v2 => by
              rw [World.cell?_setCell_other _ _ _ _ (hne.out _ _), World.cell?_setCell_other _ _ _ _ (hne.out _ _), World.cell?_setCell_other _ _ _ _ (hne.out _ _)]; exact qw
            replace hS := Lib.hid hS
            go_region_held3 (fun Wx => Wx.cell? ⟨w5.heap.size + 1, 0, none⟩ = some (.int .i64 F)) (first | exact qw | exact hS.out _ _ _) (first | fail)
            go_wp2_with fail
            try simp only [Exit.inBlock, Exit.then]
            refine bodyPost_ret (retSE rfl rfl rfl (k3.st3 rfl _ _ _)) rfl ?_
            exact hfin.out _ (by have := hw7; go_grown)
      · have hE4 : E = 12 := by rw [hE2.out, if_pos (hU.out.1 rfl)]
        have hfin := hbad.out (by rw [hE4]; decide)
        rw [hE4] at hfin
        replace hfin := Lib.hid hfin
        replace hE4 := Lib.hid hE4
        have r0 := (k3.2 0 _ rfl).1
        have r1 := (k3.2 1 _ rfl).1
        have r2 := (k3.2 2 _ rfl).1
        have s0 := (k3.2 0 _ rfl).2
        have s1 := (k3.2 1 _ rfl).2
        have s2 := (k3.2 2 _ rfl).2
        clear hU hE2
        go_wp2
        try simp only [Exit.inBlock, Exit.then]
        refine bodyPost_ret (retSE rfl rfl rfl (k3.st3 rfl _ _ _)) rfl ?_
        exact hfin.out _ (by have := hw3; go_grown)
end Go.Proofs.YtpiegngjpnpohaaGreat.Sn

namespace Go.Proofs.YtpiegngjpnpohaaGreat.Sn
open Go.RowKit Go.Proofs.YtpiegngjpnpohaaGreat.La Go.Proofs.YtpiegngjpnpohaaGreat.Sl Go.Proofs.YtpiegngjpnpohaaGreat.Ck Go.Proofs.YtpiegngjpnpohaaGreat.Rc Go.Proofs.YtpiegngjpnpohaaGreat.Rk Go.Proofs.YtpiegngjpnpohaaGreat.Wi Go.Proofs.YtpiegngjpnpohaaGreat.Fb Go.Proofs.YtpiegngjpnpohaaGreat.Mg Go.Proofs.YtpiegngjpnpohaaGreat.St
set_option linter.unusedVariables false
def cV (n : Int) : Vv := ⟨⟨1, ⟨#[99]⟩, ⟨#[]⟩, none, 0, []⟩, n, none, 0, [], 0, 0, 0, 0⟩
structure OneAt (n : Int) (s : Ss) (w : World) (B : Nat) : Prop where
  at_ : SAt s w B
  p : s.p = 2
  vs : s.vs = [cV n]
  r : s.r = 0
theorem OneAt.below {n : Int} {s : Ss} {w w' : World} {B : Nat} (h : OneAt n s w B) (k : Below B w w') : OneAt n s w' B := ⟨h.at_.below k, h.p, h.vs, h.r⟩
theorem OneAt.mono {n : Int} {s : Ss} {w : World} {B B' : Nat} (h : OneAt n s w B) (k : B ≤ B') : OneAt n s w B' := ⟨h.at_.mono k, h.p, h.vs, h.r⟩
theorem cV_plain (n : Int) (hn : 0 ≤ n ∧ n ≤ 18446744073709551615) : PlainV (cV n) := by
  refine ⟨?_, ?_, ?_, ?_, ?_, ?_, ?_, ?_, ?_, ?_, ?_, ?_, ?_, ?_, ?_⟩ <;> unfold cV <;> dsimp only
  · decide
  · decide
  · decide
  · decide
  · decide
  · intro x hx; cases hx
  · decide
  · intro x hx; cases hx
  · decide
  · decide
  · unfold In; omega
  · decide
  · unfold okF; decide
  · unfold okF; decide
  · unfold okF; decide
theorem cV_at (n : Int) (hn : 0 ≤ n ∧ n ≤ 18446744073709551615) (w : World) : VAt (cV n) w w.heap.size := OwnV.vat (B := 0) ⟨⟨0, own_nil w 0 _ _⟩, 0, own_nil w 0 _ _⟩ (cV_plain n hn)
theorem retS {fn : Func} {p : Tmp} {g : Nat} {x0 x1 x2 : Value} {tmps : Array Value} {w : World} (h : fn.results = #[.cell p 25]) (hp : tmps[p]?.getD undef = .pointer (some ⟨g, 0, none⟩))
    (hb : Blk w g [x0, x1, x2]) : (results fn tmps).run Tryz.prog w = .ok (.agg #[x0, x1, x2]) w := by
  have h0 := (hb.2 0 _ rfl).1
  have h1 := (hb.2 1 _ rfl).1
  have h2 := (hb.2 2 _ rfl).1
  simp [results, h, hp, go_sem, h0, h1, h2]
set_option maxRecDepth 100000 in
theorem one_any (n : Int) (hn : 0 ≤ n ∧ n ≤ 18446744073709551615) (w : World) :
    Calls Tryz.prog 52 #[.int .u64 n] w fun e w' => ∃ s : Ss, e = .returned s.v ∧ OneAt n s w' w'.heap.size ∧ Below w.heap.size w w' := by
  have hsf := fun (a : Addr) (x : Nat) (W : World) => run_store Tryz.prog W a (.float .f64 x) .plain rfl
  have hhi : hiI n = 0 := by unfold hiI; omega
  have hlo : loI n = n := by unfold loI; omega
  have hrow : (cV n).row = [.int .i64 1, .string ⟨#[99]⟩, .string ⟨#[]⟩, .slice none 0 0, .int .i64 0, .int .u64 n, .slice none 0 0, .int .u64 0, .float .f64 0, .float .f64 0, .float .f64 0] := by unfold Vv.row cV; dsimp only; rw [hhi, hlo]; rfl
  replace hhi := Lib.hid hhi
  replace hlo := Lib.hid hlo
  replace hrow := Lib.hid hrow
  replace hn := Lib.hid hn
  go_enter Tryz.func52, Tryz.ntmps52
  go_wp2
  obtain ⟨k1, k2, hb⟩ := Blk.pair (w := w) (w1 := (w.alloc (.cells #[.int .i64 2, .slice (some ⟨w.heap.size + 1, 0, none⟩) 1 1, .int .u64 0] 25)).alloc (.cells #[.int .i64 1, .string ⟨#[99]⟩, .string ⟨#[]⟩, .slice none 0 0, .int .i64 0, .int .u64 n, .slice none 0 0, .int .u64 0, .float .f64 0, .float .f64 0, .float .f64 0] 49)) (cs := [.int .i64 2, .slice (some ⟨w.heap.size + 1, 0, none⟩) 1 1, .int .u64 0]) (ds := [.int .i64 1, .string ⟨#[99]⟩, .string ⟨#[]⟩, .slice none 0 0, .int .i64 0, .int .u64 n, .slice none 0 0, .int .u64 0, .float .f64 0, .float .f64 0, .float .f64 0]) rfl
  refine bodyPost_ret (retS rfl rfl k1) rfl ?_
  refine ⟨⟨2, some ⟨w.heap.size + 1, 0, none⟩, 1, [cV n], 0⟩, rfl, ⟨⟨⟨⟨?_, fun _ => ⟨w.heap.size + 1, 0, rfl, k2.1, fun j u hu => ?_⟩⟩, fun v hv => ?_⟩, by dsimp only; decide, Nat.le_refl _, by dsimp only; decide, by dsimp only [List.length]; decide, by dsimp only; decide⟩, rfl, rfl, rfl⟩, hb⟩
  · dsimp only
    rw [rows_len]
  · dsimp only at hu
    have e : rows [cV n] = (cV n).row := by simp [rows]
    rw [e, hrow.out] at hu
    rw [Nat.zero_add]
    exact (k2.2 j u hu).1
  · rw [List.mem_singleton] at hv
    subst hv
    exact cV_at n hn.out _
end Go.Proofs.YtpiegngjpnpohaaGreat.Sn

namespace Go.Proofs.YtpiegngjpnpohaaGreat.Sn
open Go.RowKit Go.Proofs.YtpiegngjpnpohaaGreat.La Go.Proofs.YtpiegngjpnpohaaGreat.Sl Go.Proofs.YtpiegngjpnpohaaGreat.Ck Go.Proofs.YtpiegngjpnpohaaGreat.Rc Go.Proofs.YtpiegngjpnpohaaGreat.Rk Go.Proofs.YtpiegngjpnpohaaGreat.Wi Go.Proofs.YtpiegngjpnpohaaGreat.Fb Go.Proofs.YtpiegngjpnpohaaGreat.Mg Go.Proofs.YtpiegngjpnpohaaGreat.St Go.Proofs.YtpiegngjpnpohaaGreat.Bk
set_option linter.unusedVariables false
theorem chk_one (n : Int) (hn : 0 ≤ n) : chkS 2 [cV n] = (0, 0) := by
  have h1 : (chkS 2 [cV n]).1 = 0 := by
    rw [chkS_ok]
    refine ⟨by unfold good; decide, (show 1 ≤ 256 by decide), ⟨fun v hv => ?_, List.pairwise_singleton _ _⟩⟩
    rw [List.mem_singleton] at hv
    subst hv
    refine ⟨?_, ?_⟩
    · show chkD ⟨1, ⟨#[99]⟩, ⟨#[]⟩, none, 0, []⟩ = 0
      decide
    · unfold holdB
      rw [if_pos (show (cV n).d.kind = 1 from rfl)]
      simp only [Bool.and_eq_true, decide_eq_true_eq]
      exact ⟨⟨⟨rfl, rfl⟩, by show (zeroF 0 && zeroF 0 && zeroF 0) = true; decide⟩, hn⟩
  have h2 := chkS_snd h1
  exact Prod.ext h1 h2
theorem cmp_cV (a b : Int) : cmpD (cV a).d (cV b).d = 0 := (cmpD_zero _ _).2 ⟨rfl, rfl⟩
theorem mz_one (a b : Int) : mz [cV a] [cV b] = [(some (cV a), some (cV b))] := by
  rw [mz_both (cmp_cV a b), mz_nilL]; rfl
theorem unl_one (a b : Int) : unlikeB [cV a] [cV b] = false := by
  unfold unlikeB badV alD cV
  simp
theorem twoE_one : twoE (cV 5).c (cV 6).c = 0 := by decide
theorem mrgE_one {s t : Ss} (hs : s.p = 2 ∧ s.vs = [cV 5] ∧ s.r = 0) (ht : t.p = 2 ∧ t.vs = [cV 6] ∧ t.r = 0) : mrgE s t = 0 := by
  unfold mrgE
  rw [hs.1, hs.2.1, hs.2.2, ht.1, ht.2.1, ht.2.2, chk_one 5 (by decide), chk_one 6 (by decide), unl_one, mz_one]
  have hf : firstE [(some (cV 5), some (cV 6))] = 0 := by
    have e : errP (some (cV 5), some (cV 6)) = 0 := twoE_one
    unfold firstE
    rw [e]; rfl
  rw [hf]
  decide
theorem mrgC_one {s t m : Ss} (hs : s.p = 2 ∧ s.vs = [cV 5] ∧ s.r = 0) (ht : t.p = 2 ∧ t.vs = [cV 6] ∧ t.r = 0) (h : MrgC s t m) : m.p = 2 ∧ m.r = 0 ∧ ∃ v, m.vs = [v] ∧ v.c = ⟨1, ⟨#[99]⟩, ⟨#[]⟩, [], 11, [], 0, 0, 0, 0⟩ := by
  obtain ⟨h1, h2, h3⟩ := h.2 (mrgE_one hs ht)
  rw [hs.2.1, ht.2.1, mz_one] at h3
  rw [hs.1] at h1
  rw [hs.2.2, ht.2.2] at h2
  refine ⟨h1, by rw [h2]; decide, ?_⟩
  match hm : m.vs with
  | [] => rw [hm] at h3; simp at h3
  | [v] =>
    rw [hm] at h3
    refine ⟨v, rfl, ?_⟩
    simp only [List.map_cons, List.map_nil, List.cons.injEq, and_true] at h3
    rw [h3]
    have eo : outP (some (cV 5), some (cV 6)) = twoC (cV 5).c (cV 6).c := rfl
    rw [eo]
    unfold twoC
    have e : mrg ((cV 5).c.cs ++ (cV 6).c.cs) = [] := mrg_self (l := []) List.Pairwise.nil (by simp) (by intro c hc; cases hc)
    rw [e]
    rfl
  | u :: v :: r => rw [hm] at h3; simp at h3
theorem same_one {m t : Ss} {v : Vv} {n : Int} (hm : m.p = 2 ∧ m.r = 0 ∧ m.vs = [v]) (hv : v.c = ⟨1, ⟨#[99]⟩, ⟨#[]⟩, [], 11, [], 0, 0, 0, 0⟩) (ht : t.p = 2 ∧ t.vs = [cV n] ∧ t.r = 0) : sameS m t = decide (n = 11) := by
  have e1 : v.d.kind = 1 := congrArg Cv.kind hv
  have e2 : v.d.name = ⟨#[99]⟩ := congrArg Cv.name hv
  have e3 : v.d.help = ⟨#[]⟩ := congrArg Cv.help hv
  have e4 : v.d.l = [] := congrArg Cv.l hv
  have e5 : v.t = 11 := congrArg Cv.t hv
  have e6 : v.cs = [] := congrArg Cv.cs hv
  have e7 : v.n = 0 := congrArg Cv.n hv
  have e8 : v.sm = 0 := congrArg Cv.sm hv
  have e9 : v.mn = 0 := congrArg Cv.mn hv
  have e10 : v.mx = 0 := congrArg Cv.mx hv
  unfold sameS
  rw [hm.1, hm.2.1, hm.2.2, ht.1, ht.2.1, ht.2.2]
  unfold sameL sameL sameV sameD sameFl cV
  dsimp only
  rw [e1, e2, e3, e4, e5, e6, e7, e8, e9, e10]
  rw [Bool.eq_iff_iff]
  simp
  exact eq_comm
theorem find_one {v : Vv} (hv : v.c = ⟨1, ⟨#[99]⟩, ⟨#[]⟩, [], 11, [], 0, 0, 0, 0⟩) : findV [v] ⟨#[99]⟩ [] = some v ∧ findV [v] ⟨#[100]⟩ [] = none := by
  have e2 : v.d.name = ⟨#[99]⟩ := congrArg Cv.name hv
  have e4 : v.d.l = [] := congrArg Cv.l hv
  unfold findV isF
  simp only [List.find?_cons, e2, e4]
  exact ⟨rfl, rfl⟩
end Go.Proofs.YtpiegngjpnpohaaGreat.Sn
