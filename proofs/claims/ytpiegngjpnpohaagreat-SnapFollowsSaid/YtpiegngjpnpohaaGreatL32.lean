/- Lemmas for the laws of this seat, laid together of Sc7, Sd0. -/
import Derived.Test.YtpiegngjpnpohaaGreatL09
import Derived.Test.YtpiegngjpnpohaaGreatL31
import Derived.Deep.RegionHeld3

namespace Go.Proofs.YtpiegngjpnpohaaGreat.Sn
open Go.RowKit Go.Proofs.YtpiegngjpnpohaaGreat.La Go.Proofs.YtpiegngjpnpohaaGreat.Sl Go.Proofs.YtpiegngjpnpohaaGreat.Ck Go.Proofs.YtpiegngjpnpohaaGreat.Rc Go.Proofs.YtpiegngjpnpohaaGreat.Rk Go.Proofs.YtpiegngjpnpohaaGreat.Wi Go.Proofs.YtpiegngjpnpohaaGreat.Fb Go.Proofs.YtpiegngjpnpohaaGreat.Mg Go.Proofs.YtpiegngjpnpohaaGreat.St Go.Proofs.YtpiegngjpnpohaaGreat.Bk
set_option linter.unusedVariables false
theorem hld_self {p : Int} {v : Vv} (ok : ∀ c ∈ v.cs, okC c) (hk : v.d.kind = 1 ∨ v.d.kind = 2 ∨ v.d.kind = 3) (h : holdB p v = true) : mrg v.cs = v.cs := by
  unfold holdB at h
  by_cases k1 : v.d.kind = 1
  · rw [if_pos k1] at h
    simp only [Bool.and_eq_true, decide_eq_true_eq] at h
    rw [List.eq_nil_of_length_eq_zero h.1.1.1, mrg_nil]
  · rw [if_neg k1] at h
    by_cases k2 : v.d.kind = 2
    · rw [if_pos k2] at h
      simp only [Bool.and_eq_true] at h
      have hh := h.2
      unfold histB at hh
      simp only [decide_eq_true_eq] at hh
      exact merges_self ok hh.1
    · rw [if_neg k2] at h
      by_cases x1 : v.t ≠ 0 ∨ 0 < v.cs.length ∨ 9223372036854775807 < v.n
      · rw [if_pos x1] at h; cases h
      · rw [List.eq_nil_of_length_eq_zero (Nat.eq_zero_of_not_pos fun h => x1 (.inr (.inl h))), mrg_nil]
structure AddX (a b : Ss) (x : Vv) : Prop where
  e : findE a x.d.name x.d.l = 0 ∨ findE b x.d.name x.d.l = 0
  n : IntKind.u64.wrap ((findC a x.d.name x.d.l).n + (findC b x.d.name x.d.l).n) = x.n
  t : (findC a x.d.name x.d.l).t + (findC b x.d.name x.d.l).t = x.t
  cs : mrg ((findC a x.d.name x.d.l).cs ++ (findC b x.d.name x.d.l).cs) = x.cs
def both2 (a b : Ss) (x : Vv) : Bool := decide (findE a x.d.name x.d.l = 0) && decide (findE b x.d.name x.d.l = 0)
structure AddsF (a b m : Ss) : Prop where
  each : ∀ x ∈ m.vs, AddX a b x
  len : m.vs.length + m.vs.countP (both2 a b) = a.vs.length + b.vs.length
  r : IntKind.u64.wrap (a.r + b.r) = m.r
  p : m.p = a.p
theorem find_rng (s : Ss) (nm : ByteArray) (l : List Lab) : findE s nm l = 0 ∨ findE s nm l = 6 := by
  unfold findE
  split
  · exact .inr rfl
  · exact .inl rfl
theorem findE_c (s : Ss) (nm : ByteArray) (l : List Lab) : decide (findE s nm l = 0) = (fC (s.vs.map Vv.c) nm l).isSome := by
  rw [← findV_c]
  unfold findE
  cases findV s.vs nm l with
  | none => rw [if_pos rfl]; rfl
  | some v => rw [if_neg (by simp)]; rfl
theorem findC_some {s : Ss} {nm : ByteArray} {l : List Lab} {c : Cv} (h : fC (s.vs.map Vv.c) nm l = some c) : findC s nm l = c ∧ findE s nm l = 0 ∧ ∃ v ∈ s.vs, v.c = c := by
  obtain ⟨hm, _⟩ := fC_some h
  rw [← findV_c] at h
  unfold findC findE
  cases hv : findV s.vs nm l with
  | none => rw [hv] at h; cases h
  | some v =>
    rw [hv] at h
    refine ⟨Option.some.inj h, by rw [if_neg (by simp)], ?_⟩
    obtain ⟨v', h1, h2⟩ := List.mem_map.1 hm
    exact ⟨v', h1, h2⟩
theorem findC_none {s : Ss} {nm : ByteArray} {l : List Lab} (h : fC (s.vs.map Vv.c) nm l = none) : findC s nm l = zeroV.c ∧ findE s nm l = 6 := by
  rw [← findV_c] at h
  unfold findC findE
  cases hv : findV s.vs nm l with
  | none => exact ⟨rfl, by rw [if_pos rfl]⟩
  | some v => rw [hv] at h; cases h
theorem wrap_small {n : Int} (h : 0 ≤ n ∧ n ≤ 18446744073709551615) : IntKind.u64.wrap n = n := by rw [IntKind.wrap_u64]; omega
theorem adds_ok {a b m : Ss} (pa : ∀ v ∈ a.vs, PlainV v) (pb : ∀ v ∈ b.vs, PlainV v) (hm : MrgC a b m) (e : mrgE a b = 0) : AddsF a b m := by
  obtain ⟨h1, h2, h3⟩ := hm.2 e
  obtain ⟨g, hp, ca, cb, la, lb, hu, hl, hf, hr⟩ := mrgE_ok e
  rw [mz_mgC] at h3
  have hs : SortC (m.vs.map Vv.c) := by rw [h3]; exact mgC_sort ca.sort cb.sort
  refine ⟨fun x hx => ?_, ?_, h2.symm, h1⟩
  · have hself := fC_self hs (List.mem_map.2 ⟨x, hx, rfl⟩)
    rw [h3, fC_mgC ca.sort cb.sort] at hself
    change comb (fC (a.vs.map Vv.c) x.d.name x.d.l) (fC (b.vs.map Vv.c) x.d.name x.d.l) = some x.c at hself
    have SA : ∀ {c : Cv}, (∃ v ∈ a.vs, v.c = c) → OkC c ∧ mrg c.cs = c.cs := fun h => by
      obtain ⟨v, hv, rfl⟩ := h
      have o := okV_of (pa v hv) (ca.each v hv).1 (ca.each v hv).2
      exact ⟨o.okc (pa v hv), hld_self (pa v hv).ok o.k (ca.each v hv).2⟩
    have SB : ∀ {c : Cv}, (∃ v ∈ b.vs, v.c = c) → OkC c ∧ mrg c.cs = c.cs := fun h => by
      obtain ⟨v, hv, rfl⟩ := h
      have o := okV_of (pb v hv) (cb.each v hv).1 (cb.each v hv).2
      exact ⟨o.okc (pb v hv), hld_self (pb v hv).ok o.k (cb.each v hv).2⟩
    have z : zeroV.c.n = 0 ∧ zeroV.c.t = 0 ∧ zeroV.c.cs = [] := ⟨rfl, rfl, rfl⟩
    cases hA : fC (a.vs.map Vv.c) x.d.name x.d.l with
    | none =>
      cases hB : fC (b.vs.map Vv.c) x.d.name x.d.l with
      | none => rw [hA, hB] at hself; cases hself
      | some t =>
        rw [hA, hB] at hself
        have ex : t = x.c := Option.some.inj hself
        obtain ⟨f1, f2⟩ := findC_none hA
        obtain ⟨k1, k2, k3⟩ := findC_some hB
        obtain ⟨o, ms⟩ := SB k3
        have on := o.n
        rw [ex] at k1 on ms
        change 0 ≤ x.n ∧ x.n ≤ 9223372036854775807 at on
        refine ⟨.inr k2, ?_, ?_, ?_⟩
        · rw [f1, k1, z.1, Int.zero_add]; exact wrap_small (n := x.n) (by omega)
        · rw [f1, k1, z.2.1, Int.zero_add]; rfl
        · rw [f1, k1, z.2.2]; exact ms
    | some u =>
      obtain ⟨f1, f2, f3⟩ := findC_some hA
      obtain ⟨o, ms⟩ := SA f3
      cases hB : fC (b.vs.map Vv.c) x.d.name x.d.l with
      | none =>
        rw [hA, hB] at hself
        have ex : u = x.c := Option.some.inj hself
        obtain ⟨k1, k2⟩ := findC_none hB
        have on := o.n
        rw [ex] at f1 on ms
        change 0 ≤ x.n ∧ x.n ≤ 9223372036854775807 at on
        refine ⟨.inl f2, ?_, ?_, ?_⟩
        · rw [f1, k1, z.1, Int.add_zero]; exact wrap_small (n := x.n) (by omega)
        · rw [f1, k1, z.2.1, Int.add_zero]; rfl
        · rw [f1, k1, z.2.2, List.append_nil]; exact ms
      | some t =>
        rw [hA, hB] at hself
        have ex : twoC u t = x.c := Option.some.inj hself
        obtain ⟨k1, k2, k3⟩ := findC_some hB
        obtain ⟨o', ms'⟩ := SB k3
        have on := o.n
        have on' := o'.n
        have en : u.n + t.n = x.n := congrArg Cv.n ex
        refine ⟨.inl f2, ?_, ?_, ?_⟩
        · rw [f1, k1, en]; exact wrap_small (by omega)
        · rw [f1, k1]; exact congrArg Cv.t ex
        · rw [f1, k1]; exact congrArg Cv.cs ex
  · have hc := both_count ca.sort cb.sort
    rw [← h3] at hc
    simp only [List.length_map] at hc
    rw [List.countP_map] at hc
    have e : m.vs.countP (both2 a b) = m.vs.countP (bothC (a.vs.map Vv.c) (b.vs.map Vv.c) ∘ Vv.c) := List.countP_congr fun x _ => by
      unfold both2
      rw [findE_c, findE_c]
      exact Iff.rfl
    rw [e]
    exact hc
end Go.Proofs.YtpiegngjpnpohaaGreat.Sn

namespace Go.Proofs.YtpiegngjpnpohaaGreat.Sn
open Go.RowKit Go.Proofs.YtpiegngjpnpohaaGreat.La Go.Proofs.YtpiegngjpnpohaaGreat.Sl Go.Proofs.YtpiegngjpnpohaaGreat.Ck Go.Proofs.YtpiegngjpnpohaaGreat.Rc Go.Proofs.YtpiegngjpnpohaaGreat.Rk Go.Proofs.YtpiegngjpnpohaaGreat.Wi Go.Proofs.YtpiegngjpnpohaaGreat.Fb Go.Proofs.YtpiegngjpnpohaaGreat.Mg Go.Proofs.YtpiegngjpnpohaaGreat.St Go.Proofs.YtpiegngjpnpohaaGreat.Bk
set_option linter.unusedVariables false
def Ad (w0 : World) (gx gu gt : Nat) (x u t : Vv) (Wx : World) : Prop :=
  Below w0.heap.size w0 Wx ∧ Wx.cell? ⟨gx, 4, none⟩ = some (.int .i64 (hiI x.t)) ∧ Wx.cell? ⟨gx, 5, none⟩ = some (.int .u64 (loI x.t)) ∧ Wx.cell? ⟨gx, 6, none⟩ = some (.slice x.CA x.cs.length x.cc) ∧ Wx.cell? ⟨gx, 7, none⟩ = some (.int .u64 x.n) ∧ Wx.cell? ⟨gu, 4, none⟩ = some (.int .i64 (hiI u.t)) ∧ Wx.cell? ⟨gu, 5, none⟩ = some (.int .u64 (loI u.t)) ∧ Wx.cell? ⟨gu, 6, none⟩ = some (.slice u.CA u.cs.length u.cc) ∧ Wx.cell? ⟨gu, 7, none⟩ = some (.int .u64 u.n) ∧ Wx.cell? ⟨gt, 4, none⟩ = some (.int .i64 (hiI t.t)) ∧ Wx.cell? ⟨gt, 5, none⟩ = some (.int .u64 (loI t.t)) ∧ Wx.cell? ⟨gt, 6, none⟩ = some (.slice t.CA t.cs.length t.cc) ∧ Wx.cell? ⟨gt, 7, none⟩ = some (.int .u64 t.n)
theorem Ad.later {w0 W W' : World} {gx gu gt : Nat} {x u t : Vv} (h : Ad w0 gx gu gt x u t W) (l : gx < w0.heap.size ∧ gu < w0.heap.size ∧ gt < w0.heap.size) (k : Below W.heap.size W W') : Ad w0 gx gu gt x u t W' := by
  obtain ⟨b, h0, h1, h2, h3, h4, h5, h6, h7, h8, h9, h10, h11⟩ := h
  have := b.size
  exact ⟨b.trans (k.mono b.size), kc k (by omega) h0, kc k (by omega) h1, kc k (by omega) h2, kc k (by omega) h3, kc k (by omega) h4, kc k (by omega) h5, kc k (by omega) h6, kc k (by omega) h7, kc k (by omega) h8, kc k (by omega) h9, kc k (by omega) h10, kc k (by omega) h11⟩
theorem Ad.drew {w0 W : World} {gx gu gt : Nat} {x u t : Vv} (h : Ad w0 gx gu gt x u t W) : Ad w0 gx gu gt x u t W.drew := ⟨h.1.drew, h.2⟩
theorem countP_succ {p : Vv → Bool} {vs : List Vv} {k : Nat} (h : k < vs.length) : (vs.take (k + 1)).countP p = (vs.take k).countP p + (if p vs[k] then 1 else 0) := by
  rw [List.take_succ_eq_append_getElem h, List.countP_append, List.countP_singleton]
set_option maxRecDepth 100000 in
set_option maxHeartbeats 4000000 in
theorem adds_any (a b m : Ss) (w : World) (ha : SAt a w w.heap.size) (hb : SAt b w w.heap.size) (hm : SAt m w w.heap.size) (F : AddsF a b m)
    (sa : ∀ v ∈ a.vs, v.d.l.length ≤ 4398046511104 ∧ v.cs.length ≤ 8796093022208) (sb : ∀ v ∈ b.vs, v.d.l.length ≤ 4398046511104 ∧ v.cs.length ≤ 8796093022208) (lna : a.vs.length ≤ 1048576) (lnb : b.vs.length ≤ 1048576) (lcs : ∀ x ∈ m.vs, (findC a x.d.name x.d.l).cs.length + (findC b x.d.name x.d.l).cs.length ≤ 4194304) :
    Calls Tryz.prog 19 #[a.v, b.v, m.v] w fun e w' => e = .returned (.bool true) ∧ Below w.heap.size w w' := by
  have cA := fun (W : World) (k : Below w.heap.size w W) nm A0 c0 l (hq : QAt nm A0 c0 l W W.heap.size) => find_C a nm A0 c0 l W ((ha.below k).mono k.size) hq sa
  have cB := fun (W : World) (k : Below w.heap.size w W) nm A0 c0 l (hq : QAt nm A0 c0 l W W.heap.size) => find_C b nm A0 c0 l W ((hb.below k).mono k.size) hq sb
  have h3 := fun (w1 : World) (e : w1 = _) => Blk.triple (w := w) (w1 := w1) (cs := [.int .i64 a.p, .slice a.A a.vs.length a.c, .int .u64 a.r]) (ds := [.int .i64 b.p, .slice b.A b.vs.length b.c, .int .u64 b.r]) (es := [.int .i64 m.p, .slice m.A m.vs.length m.c, .int .u64 m.r]) (T := 25) (U := 25) (X := 25) e
  have hsf := fun (a : Addr) (x : Nat) (W : World) => run_store Tryz.prog W a (.float .f64 x) .plain rfl
  have hmv := hm.vs
  have hsz := hm.len2
  have hlen := F.len
  have hr := F.r
  have hp := F.p
  rw [hp] at h3
  unfold Ss.v at cA cB ⊢
  rw [hp]
  obtain ⟨na, hna⟩ : ∃ n, n = a.vs.length := ⟨_, rfl⟩
  obtain ⟨nb, hnb⟩ : ∃ n, n = b.vs.length := ⟨_, rfl⟩
  obtain ⟨nm, hnm⟩ : ∃ n, n = m.vs.length := ⟨_, rfl⟩
  rw [← hna] at cA h3 hlen lna ⊢
  rw [← hnb] at cB h3 hlen lnb ⊢
  rw [← hnm] at h3 hlen ⊢
  have hnI : (nm : Int) ≤ 2097152 := by omega
  have naI : (na : Int) ≤ 1048576 := by omega
  have nbI : (nb : Int) ≤ 1048576 := by omega
  have hlast : ((nm : Int) == (na : Int) + (nb : Int) - ((m.vs.countP (both2 a b) : Nat) : Int)) = true := by rw [beq_iff_eq]; omega
  have hle : m.vs.countP (both2 a b) ≤ nm := by rw [hnm]; exact List.countP_le_length
  replace hnm := Lib.hid hnm
  replace cA := Lib.hid cA
  replace cB := Lib.hid cB
  replace h3 := Lib.hid h3
  replace hmv := Lib.hid hmv
  have hF := Lib.hid F
  replace lcs := Lib.hid lcs
  replace hlast := Lib.hid hlast
  replace hle := Lib.hid hle
  clear ha hb hm hsz hlen hp hna hnb F sa sb
  go_enter Tryz.func19, Tryz.ntmps19
  go_upto_region 1 with fail
  obtain ⟨w1, hw1⟩ : ∃ w1, w1 = (((w.alloc (.cells #[.int .i64 a.p, .slice a.A na a.c, .int .u64 a.r] 25)).alloc (.cells #[.int .i64 b.p, .slice b.A nb b.c, .int .u64 b.r] 25)).alloc (.cells #[.int .i64 a.p, .slice m.A nm m.c, .int .u64 m.r] 25)) := ⟨_, rfl⟩
  rw [← hw1]
  obtain ⟨k1, k2, k3, hb1⟩ := h3.out w1 hw1
  clear hw1 h3
  go_wp2
  go_loopw [7, 8] (fun c v wr => ∃ (i : Nat), c = .int .i64 (((m.vs.take i).countP (both2 a b) : Nat) : Int) ∧ v = .int .i64 (i : Int) ∧ i ≤ nm ∧ Hid (Below w1.heap.size w1 wr)) (fun _ v _ => nm - (intOf v).toNat)
  case atStart => exact ⟨0, rfl, rfl, Nat.zero_le _, Lib.hid (Below.refl _ _)⟩
  case round =>
    obtain ⟨i, rfl, rfl, hi, hwr'⟩ := hrel
    have hwr := hwr'.out
    have q1 := k1.later hwr
    have q2 := k2.later hwr
    have q3 := k3.later hwr
    have y1 := (q3.2 1 _ rfl).1
    have hKle : (m.vs.take i).countP (both2 a b) ≤ i := Nat.le_trans List.countP_le_length (by rw [List.length_take]; omega)
    by_cases hlt : i < nm
    · have gI : (i : Int) < (nm : Int) := by omega
      have gI0 : (0 : Int) ≤ (i : Int) := by omega
      have hil : i < m.vs.length := by rw [← hnm.out]; exact hlt
      have hmr := (hmv.out.below (hb1.trans (hwr.mono hb1.size)))
      obtain ⟨bx, ox, hAx, hBx, x0, x1, x2, x3, x4, x5, x6, x7, x8, x9, x10⟩ := hmr.cells i hil
      rw [hAx] at y1
      have hK := countP_succ (p := both2 a b) hil
      have hX := hF.out.each m.vs[i] (List.getElem_mem hil)
      have hL := lcs.out m.vs[i] (List.getElem_mem hil)
      have hva := hmr.all m.vs[i] (List.getElem_mem hil)
      obtain ⟨x, hx⟩ : ∃ v, v = m.vs[i] := ⟨_, rfl⟩
      rw [← hx] at x0 x1 x2 x3 x4 x5 x6 x7 x8 x9 x10 hK hX hL hva
      obtain ⟨hXe, hXn, hXt, hXc⟩ := hX
      have hb1r := hb1.trans (hwr.mono hb1.size)
      have hszr := hb1r.size
      obtain ⟨dl, hdl⟩ : ∃ n, n = x.d.l.length := ⟨_, rfl⟩
      have cAx := fun (W : World) (k : Below wr.heap.size wr W) => cA.out W (hb1r.trans (k.mono hb1r.size)) x.d.name x.d.A x.d.c x.d.l ⟨(hva.d.rd.below (k.mono hszr)).mono (Nat.le_trans hszr k.size), hva.d.cap, hva.d.len, hva.d.len2, hva.d.name, hva.d.texts⟩
      have cBx := fun (W : World) (k : Below wr.heap.size wr W) => cB.out W (hb1r.trans (k.mono hb1r.size)) x.d.name x.d.A x.d.c x.d.l ⟨(hva.d.rd.below (k.mono hszr)).mono (Nat.le_trans hszr k.size), hva.d.cap, hva.d.len, hva.d.len2, hva.d.name, hva.d.texts⟩
      obtain ⟨E1, hE1⟩ : ∃ e, e = findE a x.d.name x.d.l := ⟨_, rfl⟩
      obtain ⟨E2, hE2⟩ : ∃ e, e = findE b x.d.name x.d.l := ⟨_, rfl⟩
      have hR1 := find_rng a x.d.name x.d.l
      have hR2 := find_rng b x.d.name x.d.l
      have hbt : both2 a b x = (decide (E1 = 0) && decide (E2 = 0)) := by unfold both2; rw [hE1, hE2]
      rw [← hE1] at cAx hXe hR1
      rw [← hE2] at cBx hXe hR2
      rw [hbt] at hK
      rw [← hdl] at x3 cAx cBx
      have dlI : (dl : Int) ≤ 140737488355328 := by have := hva.d.len2; omega
      have hnew := Blk.new wr [.int .i64 x.d.kind, .string x.d.name, .string x.d.help, .slice x.d.A dl x.d.c] 43
      replace hx := Lib.hid hx
      replace hva := Lib.hid hva
      replace hK := Lib.hid hK
      replace hXn := Lib.hid hXn
      replace hXt := Lib.hid hXt
      replace hXc := Lib.hid hXc
      replace hXe := Lib.hid hXe
      replace hR1 := Lib.hid hR1
      replace hR2 := Lib.hid hR2
      replace hL := Lib.hid hL
      replace cAx := Lib.hid cAx
      replace cBx := Lib.hid cBx
      replace hdl := Lib.hid hdl
      replace hKle := Lib.hid hKle
      clear hE1 hE2 hbt hmr
      have hbxw : bx < wr.heap.size := by omega
      have hxs := Lib.hid (And.intro x0 (And.intro x1 (And.intro x2 (And.intro x3 (And.intro x4 (And.intro x5 (And.intro x6 (And.intro x7 (And.intro x8 (And.intro x9 x10))))))))))
      replace hAx := Lib.hid hAx
      go_upto_region 6 with fail
      obtain ⟨w5, hw5⟩ : ∃ w5, w5 = wr.alloc (.cells #[.int .i64 x.d.kind, .string x.d.name, .string x.d.help, .slice x.d.A dl x.d.c] 43) := ⟨_, rfl⟩
      have kb5 : Blk w5 wr.heap.size [.int .i64 x.d.kind, .string x.d.name, .string x.d.help, .slice x.d.A dl x.d.c] := by rw [hw5]; exact hnew
      have hb5 : Below wr.heap.size wr w5 := by rw [hw5]; exact (Below.refl _ _).alloc (Nat.le_refl _) _
      rw [← hw5]
      clear hw5 hnew
      have hbr5 := hb5
      have z1 := (kb5.2 1 _ rfl).1
      have z3 := (kb5.2 3 _ rfl).1
      have p1 := q1.later hb5
      have v0 := (p1.2 0 _ rfl).1
      have v1 := (p1.2 1 _ rfl).1
      have v2 := (p1.2 2 _ rfl).1
      clear x0 x1 x2 x3 x4 x5 x6 x7 x8 x9 x10 y1
      go_wp2_with fail
      refine (cAx.out _ hb5).mono ?_
      rintro e w6 ⟨u, rfl, hu, huc, hb6⟩
      clear z1 z3 v0 v1 v2 p1
      have hr6 := hb5.trans (hb6.mono hb5.size)
      replace kb5 := kb5.later hb6
      unfold Vv.v
      have hnew := Blk.new w6 u.row 49
      unfold Vv.row at hnew
      replace hu := Lib.hid hu
      replace huc := Lib.hid huc
      go_upto_region 7 with fail
      obtain ⟨w7, hw7⟩ : ∃ w7, w7 = w6.alloc (.cells #[.int .i64 u.d.kind, .string u.d.name, .string u.d.help, .slice u.d.A u.d.l.length u.d.c, .int .i64 (hiI u.t), .int .u64 (loI u.t), .slice u.CA u.cs.length u.cc, .int .u64 u.n, .float .f64 u.sm, .float .f64 u.mn, .float .f64 u.mx] 49) := ⟨_, rfl⟩
      have kb7 : Blk w7 w6.heap.size [.int .i64 u.d.kind, .string u.d.name, .string u.d.help, .slice u.d.A u.d.l.length u.d.c, .int .i64 (hiI u.t), .int .u64 (loI u.t), .slice u.CA u.cs.length u.cc, .int .u64 u.n, .float .f64 u.sm, .float .f64 u.mn, .float .f64 u.mx] := by rw [hw7]; exact hnew
      have hb7 : Below w6.heap.size w6 w7 := by rw [hw7]; exact (Below.refl _ _).alloc (Nat.le_refl _) _
      rw [← hw7]
      clear hw7 hnew
      have hr7 := hr6.trans (hb7.mono hr6.size)
      replace kb5 := kb5.later hb7
      have z1 := (kb5.2 1 _ rfl).1
      have z3 := (kb5.2 3 _ rfl).1
      have p1 := q2.later hr7
      have v0 := (p1.2 0 _ rfl).1
      have v1 := (p1.2 1 _ rfl).1
      have v2 := (p1.2 2 _ rfl).1
      go_wp2_with fail
      refine (cBx.out _ hr7).mono ?_
      rintro e w8 ⟨t, rfl, ht, htc, hb8⟩
      clear z1 z3 v0 v1 v2 p1 kb5
      have hr8 := hr7.trans (hb8.mono hr7.size)
      replace kb7 := kb7.later hb8
      unfold Vv.v
      have hnew := Blk.new w8 t.row 49
      unfold Vv.row at hnew
      replace ht := Lib.hid ht
      replace htc := Lib.hid htc
      go_upto_region 8 with fail
      obtain ⟨w9, hw9⟩ : ∃ w9, w9 = w8.alloc (.cells #[.int .i64 t.d.kind, .string t.d.name, .string t.d.help, .slice t.d.A t.d.l.length t.d.c, .int .i64 (hiI t.t), .int .u64 (loI t.t), .slice t.CA t.cs.length t.cc, .int .u64 t.n, .float .f64 t.sm, .float .f64 t.mn, .float .f64 t.mx] 49) := ⟨_, rfl⟩
      have kb9 : Blk w9 w8.heap.size [.int .i64 t.d.kind, .string t.d.name, .string t.d.help, .slice t.d.A t.d.l.length t.d.c, .int .i64 (hiI t.t), .int .u64 (loI t.t), .slice t.CA t.cs.length t.cc, .int .u64 t.n, .float .f64 t.sm, .float .f64 t.mn, .float .f64 t.mx] := by rw [hw9]; exact hnew
      have hb9 : Below w8.heap.size w8 w9 := by rw [hw9]; exact (Below.refl _ _).alloc (Nat.le_refl _) _
      rw [← hw9]
      clear hw9 hnew
      have hr9 := hr8.trans (hb9.mono hr8.size)
      replace kb7 := kb7.later hb9
      have hcase : (E1 = 0 ∧ E2 = 0) ∨ (E1 = 0 ∧ E2 = 6) ∨ (E1 = 6 ∧ E2 = 0) := by
        have a1 := hR1.out
        have a2 := hR2.out
        have a3 := hXe.out
        omega
      obtain ⟨K, hKK⟩ : ∃ n, n = (m.vs.take i).countP (both2 a b) := ⟨_, rfl⟩
      obtain ⟨K', hK'⟩ : ∃ n, n = (m.vs.take (i + 1)).countP (both2 a b) := ⟨_, rfl⟩
      have hK2 := hK.out
      rw [← hKK, ← hK'] at hK2
      have hKl : K ≤ i := by rw [hKK]; exact hKle.out
      rw [← hKK]
      have KI : (K : Int) ≤ 2097152 := by omega
      replace hKK := Lib.hid hKK
      replace hK' := Lib.hid hK'
      clear hK
      rcases hcase with ⟨rfl, rfl⟩ | ⟨rfl, rfl⟩ | ⟨rfl, rfl⟩
      all_goals
        first
          | (have e2 : K' = K + 1 := by simpa using hK2)
          | (have e2 : K' = K := by simpa using hK2)
        replace e2 := Lib.hid e2
        clear hK2 cAx cBx hR1 hR2 hXe hKl
        go_upto_region 12 with fail
        clear KI
        have p3 := q3.later hr9
        have y1 := (p3.2 1 _ rfl).1
        rw [hAx.out] at y1
        clear p3
        obtain ⟨x0, x1, x2, x3, x4, x5, x6, x7, x8, x9, x10⟩ := hxs.out
        replace x0 := kc hr9 hbxw x0
        replace x1 := kc hr9 hbxw x1
        replace x2 := kc hr9 hbxw x2
        replace x3 := kc hr9 hbxw x3
        replace x4 := kc hr9 hbxw x4
        replace x5 := kc hr9 hbxw x5
        replace x6 := kc hr9 hbxw x6
        replace x7 := kc hr9 hbxw x7
        replace x8 := kc hr9 hbxw x8
        replace x9 := kc hr9 hbxw x9
        replace x10 := kc hr9 hbxw x10
        have hnew := Blk.new w9 [.int .i64 x.d.kind, .string x.d.name, .string x.d.help, .slice x.d.A dl x.d.c, .int .i64 (hiI x.t), .int .u64 (loI x.t), .slice x.CA x.cs.length x.cc, .int .u64 x.n, .float .f64 x.sm, .float .f64 x.mn, .float .f64 x.mx] 49
        go_upto_region 13 with fail
        obtain ⟨w10, hw10⟩ : ∃ w10, w10 = w9.alloc (.cells #[.int .i64 x.d.kind, .string x.d.name, .string x.d.help, .slice x.d.A dl x.d.c, .int .i64 (hiI x.t), .int .u64 (loI x.t), .slice x.CA x.cs.length x.cc, .int .u64 x.n, .float .f64 x.sm, .float .f64 x.mn, .float .f64 x.mx] 49) := ⟨_, rfl⟩
        have kb10 : Blk w10 w9.heap.size [.int .i64 x.d.kind, .string x.d.name, .string x.d.help, .slice x.d.A dl x.d.c, .int .i64 (hiI x.t), .int .u64 (loI x.t), .slice x.CA x.cs.length x.cc, .int .u64 x.n, .float .f64 x.sm, .float .f64 x.mn, .float .f64 x.mx] := by rw [hw10]; exact hnew
        have hb10 : Below w9.heap.size w9 w10 := by rw [hw10]; exact (Below.refl _ _).alloc (Nat.le_refl _) _
        rw [← hw10]
        clear hw10 hnew
        clear x0 x1 x2 x3 x4 x5 x6 x7 x8 x9 x10 y1
        have ku := kb7.later hb10
        have kt := kb9.later hb10
        have S0 : Ad w10 w9.heap.size w6.heap.size w8.heap.size x u t w10 := ⟨Below.refl _ _, (kb10.2 4 _ rfl).1, (kb10.2 5 _ rfl).1, (kb10.2 6 _ rfl).1, (kb10.2 7 _ rfl).1, (ku.2 4 _ rfl).1, (ku.2 5 _ rfl).1, (ku.2 6 _ rfl).1, (ku.2 7 _ rfl).1, (kt.2 4 _ rfl).1, (kt.2 5 _ rfl).1, (kt.2 6 _ rfl).1, (kt.2 7 _ rfl).1⟩
        have hl : w9.heap.size < w10.heap.size ∧ w6.heap.size < w10.heap.size ∧ w8.heap.size < w10.heap.size := ⟨kb10.1, ku.1, kt.1⟩
        have eT : u.t + t.t = x.t := by have h := hXt.out; rw [← huc.out, ← htc.out] at h; exact h
        have eN : IntKind.u64.wrap (u.n + t.n) = x.n := by have h := hXn.out; rw [← huc.out, ← htc.out] at h; exact h
        have eC : mrg (u.cs ++ t.cs) = x.cs := by have h := hXc.out; rw [← huc.out, ← htc.out] at h; exact h
        have eL : u.cs.length + t.cs.length ≤ 4194304 := by have h := hL.out; rw [← huc.out, ← htc.out] at h; exact h
        have hr10 := hr9.trans (hb10.mono hr9.size)
        have hu10 : VAt u w10 w10.heap.size := ((hu.out.below (hb7.trans ((hb8.trans ((hb9.trans (hb10.mono hb9.size)).mono hb8.size)).mono hb7.size))).mono (by have := hb7.size; have := hb8.size; have := hb9.size; have := hb10.size; omega))
        have ht10 : VAt t w10 w10.heap.size := ((ht.out.below (hb9.trans (hb10.mono hb9.size))).mono (by have := hb9.size; have := hb10.size; omega))
        have hx10 : VAt x w10 w10.heap.size := (hva.out.below (hr10.mono hszr)).mono (Nat.le_trans hszr hr10.size)
        have cAdd := fun (W : World) (h : Ad w10 w9.heap.size w6.heap.size w8.heap.size x u t W) => (radd_any u.t t.t W).mono (R' := fun e w' => e = .returned (I128 x.t) ∧ Ad w10 w9.heap.size w6.heap.size w8.heap.size x u t w') fun _ _ ⟨e, b⟩ => ⟨by rw [e, eT], h.later hl b⟩
        have cMrg := fun (W : World) (h : Ad w10 w9.heap.size w6.heap.size w8.heap.size x u t W) => (rmerge_any W W.heap.size u.CA t.CA u.cs t.cs u.cc t.cc (cs_mono (hu10.cs.below h.1) h.1.size) (cs_mono (ht10.cs.below h.1) h.1.size) (Nat.le_refl _) eL).mono (R' := fun e w' => ∃ A c, e = .returned (.slice A x.cs.length c) ∧ Cs w' w'.heap.size A x.cs ∧ Ad w10 w9.heap.size w6.heap.size w8.heap.size x u t w') fun _ _ ⟨A, c, e, ho, b⟩ => ⟨A, c, by rw [e, eC], cs_of_own (by rw [eC] at ho; exact ho) hx10.cs.ok, h.later hl b⟩
        have cSam := fun (W1 W : World) (A : Option Addr) (c : Nat) (hc : Cs W1 W1.heap.size A x.cs) (k : Below W1.heap.size W1 W) (h : Ad w10 w9.heap.size w6.heap.size w8.heap.size x u t W) => (same_any W W.heap.size x.CA A x.cs x.cs x.cc c (cs_mono (hx10.cs.below h.1) h.1.size) (cs_mono (hc.below k) k.size) (Nat.le_refl _)).mono (R' := fun e w' => e = .returned (.bool true) ∧ Ad w10 w9.heap.size w6.heap.size w8.heap.size x u t w') fun _ _ ⟨e, b⟩ => ⟨by rw [e, decide_eq_true rfl], h.later hl b⟩
        have hne : ∀ W : World, (binOp .neq 45 (.agg #[.int .i64 (hiI x.t), .int .u64 (loI x.t)]) (.agg #[.int .i64 (hiI x.t), .int .u64 (loI x.t)])).run Tryz.prog W = .ok (.bool false) W := fun W => by rw [neI_fact]; simp
        unfold I128 at cAdd
        obtain ⟨nx, hnx⟩ : ∃ n, n = x.cs.length := ⟨_, rfl⟩
        obtain ⟨nu, hnu⟩ : ∃ n, n = u.cs.length := ⟨_, rfl⟩
        obtain ⟨nt, hnt⟩ : ∃ n, n = t.cs.length := ⟨_, rfl⟩
        have hbW : Below w1.heap.size w1 w10 := hwr.trans (hr10.mono hwr.size)
        replace cAdd := Lib.hid cAdd
        replace cMrg := Lib.hid cMrg
        replace cSam := Lib.hid cSam
        replace eT := Lib.hid eT
        replace eC := Lib.hid eC
        replace hnx := Lib.hid hnx
        replace hnu := Lib.hid hnu
        replace hnt := Lib.hid hnt
        clear kb7 kb9 kb10 ku kt hu10 ht10 hx10 hXt hXn hXc hL huc htc hu ht hva eT eC eL
        obtain ⟨s0, s1, s2, s3, s4, s5, s6, s7, s8, s9, s10, s11, s12⟩ := id S0
        go_region_held3 (fun Wx => Below w10.heap.size w10 Wx ∧ Wx.cell? ⟨w9.heap.size, 4, none⟩ = some (.int .i64 (hiI x.t)) ∧ Wx.cell? ⟨w9.heap.size, 5, none⟩ = some (.int .u64 (loI x.t)) ∧ Wx.cell? ⟨w9.heap.size, 6, none⟩ = some (.slice x.CA x.cs.length x.cc) ∧ Wx.cell? ⟨w9.heap.size, 7, none⟩ = some (.int .u64 x.n) ∧ Wx.cell? ⟨w6.heap.size, 4, none⟩ = some (.int .i64 (hiI u.t)) ∧ Wx.cell? ⟨w6.heap.size, 5, none⟩ = some (.int .u64 (loI u.t)) ∧ Wx.cell? ⟨w6.heap.size, 6, none⟩ = some (.slice u.CA u.cs.length u.cc) ∧ Wx.cell? ⟨w6.heap.size, 7, none⟩ = some (.int .u64 u.n) ∧ Wx.cell? ⟨w8.heap.size, 4, none⟩ = some (.int .i64 (hiI t.t)) ∧ Wx.cell? ⟨w8.heap.size, 5, none⟩ = some (.int .u64 (loI t.t)) ∧ Wx.cell? ⟨w8.heap.size, 6, none⟩ = some (.slice t.CA t.cs.length t.cc) ∧ Wx.cell? ⟨w8.heap.size, 7, none⟩ = some (.int .u64 t.n)) (first | assumption | exact Ad.drew (by assumption)) (first
          | (go_at_call 62; refine (cAdd.out _ (by assumption)).mono ?_; rintro e W1 ⟨rfl, hS1⟩)
          | (go_at_call 64; refine (cMrg.out _ (by assumption)).mono ?_; rintro e W2 ⟨A2, c2, rfl, hc2, hS2⟩)
          | (go_at_call 63; refine (cSam.out W2 _ A2 c2 hc2 (by first | exact Below.refl _ _ | exact (Below.refl _ _).drew | go_grown) (by assumption)).mono ?_; rintro e W3 ⟨rfl, hS3⟩))
        all_goals
          go_wp2_with fail
          exact ⟨⟨i + 1, by first | (rw [← hK'.out, e2.out]; done) | (rw [← hK'.out, e2.out]; simp), by go_num, hlt, Lib.hid (hbW.trans (hS3.1.mono hbW.size))⟩, by simp [intOf]; omega⟩
    · obtain rfl : i = nm := by omega
      have hall : m.vs.take i = m.vs := by rw [hnm.out, List.take_length]
      rw [hall] at hKle ⊢
      obtain ⟨K, hK⟩ : ∃ n, n = m.vs.countP (both2 a b) := ⟨_, rfl⟩
      have hla := hlast.out
      rw [← hK] at hla hKle ⊢
      have KI : (K : Int) ≤ 2097152 := by omega
      have v0 := (q1.2 0 _ rfl).1
      have v1 := (q1.2 1 _ rfl).1
      have v2 := (q1.2 2 _ rfl).1
      have u0 := (q2.2 0 _ rfl).1
      have u1 := (q2.2 1 _ rfl).1
      have u2 := (q2.2 2 _ rfl).1
      have t0 := (q3.2 0 _ rfl).1
      have t2 := (q3.2 2 _ rfl).1
      replace hK := Lib.hid hK
      replace hall := Lib.hid hall
      go_wp2
      go_ret
      exact ⟨rfl, hb1.trans (hwr.mono hb1.size)⟩
end Go.Proofs.YtpiegngjpnpohaaGreat.Sn
