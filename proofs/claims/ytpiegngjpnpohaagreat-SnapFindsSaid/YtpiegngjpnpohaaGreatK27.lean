/- Lemmas for the laws of this seat, laid together of SnL, SnU, SnV. -/
import Derived.Test.YtpiegngjpnpohaaGreatK26

namespace Go.Proofs.YtpiegngjpnpohaaGreat.Sn
open Go.RowKit Go.Proofs.YtpiegngjpnpohaaGreat.La Go.Proofs.YtpiegngjpnpohaaGreat.Sl Go.Proofs.YtpiegngjpnpohaaGreat.Ck Go.Proofs.YtpiegngjpnpohaaGreat.Rc Go.Proofs.YtpiegngjpnpohaaGreat.Rk Go.Proofs.YtpiegngjpnpohaaGreat.Wi Go.Proofs.YtpiegngjpnpohaaGreat.Fb Go.Proofs.YtpiegngjpnpohaaGreat.Mg Go.Proofs.YtpiegngjpnpohaaGreat.St
set_option linter.unusedVariables false
theorem cmpD_zero (a b : DD) : cmpD a b = 0 ↔ a.name = b.name ∧ a.l = b.l := by
  have h := (cB_ord.lex labs_ord).eq (a.name, a.l) (b.name, b.l)
  rw [← cmpD_ord a b] at h
  rw [h]
  simp
def isF (nm : ByteArray) (l : List Lab) (v : Vv) : Bool := decide (v.d.name = nm) && decide (v.d.l = l)
def findV (vs : List Vv) (nm : ByteArray) (l : List Lab) : Option Vv := vs.find? (isF nm l)
theorem isF_cmp (nm : ByteArray) (A : Option Addr) (c : Nat) (l : List Lab) (v : Vv) : decide (cmpD v.d ⟨0, nm, ⟨#[]⟩, A, c, l⟩ = 0) = isF nm l v := by
  unfold isF
  rw [Bool.eq_iff_iff]
  simp [cmpD_zero]
structure QAt (nm : ByteArray) (A : Option Addr) (c : Nat) (l : List Lab) (w : World) (B : Nat) : Prop where
  rd : Rd w B 2 A (labs l) l.length
  cap : l.length ≤ c
  len : c ≤ 9223372036854775807
  len2 : l.length ≤ 140737488355328
  name : nm.size ≤ 9223372036854775807
  texts : ∀ x ∈ l, x.1.size ≤ 9223372036854775807 ∧ x.2.size ≤ 9223372036854775807
theorem QAt.d {nm : ByteArray} {A : Option Addr} {c : Nat} {l : List Lab} {w : World} {B : Nat} (h : QAt nm A c l w B) : DAt ⟨0, nm, ⟨#[]⟩, A, c, l⟩ w B :=
  ⟨h.rd, h.cap, h.len, h.len2, h.name, Nat.zero_le _, h.texts, ⟨by show (-9223372036854775808 : Int) ≤ 0; decide, by show (0 : Int) ≤ 9223372036854775807; decide⟩⟩
theorem QAt.below {nm : ByteArray} {A : Option Addr} {c : Nat} {l : List Lab} {w w' : World} {B : Nat} (h : QAt nm A c l w B) (k : Below B w w') : QAt nm A c l w' B := ⟨h.rd.below k, h.cap, h.len, h.len2, h.name, h.texts⟩
theorem QAt.mono {nm : ByteArray} {A : Option Addr} {c : Nat} {l : List Lab} {w : World} {B B' : Nat} (h : QAt nm A c l w B) (k : B ≤ B') : QAt nm A c l w B' := ⟨h.rd.mono k, h.cap, h.len, h.len2, h.name, h.texts⟩
set_option maxRecDepth 100000 in
set_option maxHeartbeats 1000000 in
theorem find1_any (v : Vv) (q : DD) (g : Nat) (w : World) (hv : VAt v w w.heap.size) (hq : DAt q w w.heap.size)
    (q0 : w.cell? ⟨g, 0, none⟩ = some (.int .i64 q.kind)) (q1 : w.cell? ⟨g, 1, none⟩ = some (.string q.name)) (q2 : w.cell? ⟨g, 2, none⟩ = some (.string q.help)) (q3 : w.cell? ⟨g, 3, none⟩ = some (.slice q.A q.l.length q.c)) :
    Calls Tryz.prog 66 #[v.v, .pointer (some ⟨g, 0, none⟩)] w fun e w' => e = .returned (.bool (decide (cmpD v.d q = 0))) ∧ Below w.heap.size w w' := by
  have cc := fun W (k : Below w.heap.size w W) => hv.d.cmp hq (Nat.le_refl _) k
  have hnew := fun (w1 : World) (e : w1 = _) => V11.new w 49 v (w1 := w1) e
  have hbq := beqI (cmpD v.d q) 0
  unfold Vv.row at hnew
  unfold Vv.v
  have hbg : g < w.heap.size := by
    rcases Nat.lt_or_ge g w.heap.size with x | x
    · exact x
    · exfalso
      unfold World.cell? at q0
      simp [Array.getElem?_eq_none x] at q0
  obtain ⟨C, hC⟩ : ∃ C, C = cmpD v.d q := ⟨_, rfl⟩
  rw [← hC] at cc hbq ⊢
  unfold DD.v at cc
  obtain ⟨ln, hln⟩ : ∃ ln, ln = v.d.l.length := ⟨_, rfl⟩
  obtain ⟨cn, hcn⟩ : ∃ cn, cn = v.cs.length := ⟨_, rfl⟩
  obtain ⟨lq, hlq⟩ : ∃ ln, ln = q.l.length := ⟨_, rfl⟩
  rw [← hln, ← hlq] at cc
  rw [← hlq] at q3
  rw [← hln, ← hcn] at hnew ⊢
  generalize decide (C = 0) = r at *
  replace cc := Lib.hid cc
  replace hnew := Lib.hid hnew
  replace hln := Lib.hid hln
  replace hcn := Lib.hid hcn
  clear hlq hv hq hC
  go_enter Tryz.func66, Tryz.ntmps66
  go_upto_region 1 with fail
  obtain ⟨w1, hw1⟩ : ∃ w1, w1 = w.alloc (.cells #[.int .i64 v.d.kind, .string v.d.name, .string v.d.help, .slice v.d.A ln v.d.c, .int .i64 (hiI v.t), .int .u64 (loI v.t), .slice v.CA cn v.cc, .int .u64 v.n, .float .f64 v.sm, .float .f64 v.mn, .float .f64 v.mx] 49) := ⟨_, rfl⟩
  rw [← hw1]
  obtain ⟨hb1, hlt1, hv1⟩ := hnew.out w1 hw1
  replace q0 := kc hb1 hbg q0
  replace q1 := kc hb1 hbg q1
  replace q2 := kc hb1 hbg q2
  replace q3 := kc hb1 hbg q3
  clear hw1 hnew
  obtain ⟨z0, z1, z2, z3, z4, z5, z6, z7, z8, z9, z10⟩ := hv1
  rw [← hln.out] at z3
  clear z4 z5 z6 z7 z8 z9 z10
  go_wp2_with fail
  refine (cc.out _ hb1).mono ?_
  rintro e w2 ⟨rfl, hb2⟩
  go_wp2
  go_ret
  exact ⟨rfl, hb1.trans (hb2.mono hb1.size)⟩
theorem enter_find (a : Array Value) (w : World) : (callFunc 66 a).run Tryz.prog w = .ok (.enter 66 a) w :=
  call_enter Tryz.func66 (by kernel_rfl) (by kernel_rfl) a w
theorem own_nil (w : World) (B : Nat) (e : TypeId) (s : Nat) : w.ownsRow B e s (.slice none 0 0) 0 [] := ⟨by simp, .inl ⟨rfl, rfl⟩⟩
theorem zeroV_own (w : World) (B : Nat) : OwnV B w zeroV := ⟨⟨0, own_nil w B _ _⟩, 0, own_nil w B _ _⟩
theorem zeroV_plain : PlainV zeroV := ⟨by decide, by decide, by decide, by decide, by decide, (by intro x hx; cases hx), by decide, (by intro x hx; cases hx), by decide, by decide, (by unfold In zeroV; decide), by decide, (by unfold okF zeroV; decide), (by unfold okF zeroV; decide), (by unfold okF zeroV; decide)⟩
def FindPost (w : World) (o : Option Vv) (e : Ending) (w' : World) : Prop :=
  Below w.heap.size w w' ∧ ∃ v' : Vv, e = .returned (.tuple #[v'.v, .int .i64 (if o = none then 6 else 0)]) ∧ VAt v' w' w'.heap.size ∧ OwnV w.heap.size w' v' ∧ v'.c = (match o with | none => zeroV.c | some v => v.c)
theorem find_idx (vs : List Vv) (p : Vv → Bool) : (idxP p vs = -1 ∧ vs.find? p = none) ∨ ∃ (i : Nat) (h : i < vs.length), idxP p vs = i ∧ vs.find? p = some vs[i] := by
  unfold idxP
  cases h : vs.findIdx? p with
  | none =>
    refine .inl ⟨rfl, ?_⟩
    rw [List.findIdx?_eq_none_iff] at h
    rw [List.find?_eq_none]
    intro x hx; simp [h x hx]
  | some i =>
    rw [List.findIdx?_eq_some_iff_getElem] at h
    obtain ⟨hi, h1, h2⟩ := h
    refine .inr ⟨i, hi, rfl, ?_⟩
    rw [List.find?_eq_some_iff_getElem]
    exact ⟨h1, i, hi, rfl, fun j hj => by simpa using h2 j hj⟩
set_option maxRecDepth 100000 in
set_option maxHeartbeats 2000000 in
theorem find_any (s : Ss) (nm : ByteArray) (A0 : Option Addr) (c0 : Nat) (l : List Lab) (w : World) (h : SAt s w w.heap.size) (hq : QAt nm A0 c0 l w w.heap.size)
    (hb : ∀ v ∈ s.vs, v.d.l.length ≤ 4398046511104 ∧ v.cs.length ≤ 8796093022208) :
    Calls Tryz.prog 24 #[s.v, .string nm, .slice A0 l.length c0] w (FindPost w (findV s.vs nm l)) := by
  have hvs := h.vs
  have hlen := h.len2
  obtain ⟨p, A, c, vs, r⟩ := s
  unfold Ss.v
  dsimp only at *
  have hidx := find_idx vs (isF nm l)
  have cix := fun (W : World) (g : Nat) (k : Below w.heap.size w W) (hg : g < W.heap.size) (q0 : W.cell? ⟨g, 0, none⟩ = some (.int .i64 0)) (q1 : W.cell? ⟨g, 1, none⟩ = some (.string nm)) (q2 : W.cell? ⟨g, 2, none⟩ = some (.string ⟨#[]⟩)) (q3 : W.cell? ⟨g, 3, none⟩ = some (.slice A0 l.length c0)) =>
    indexV_any 66 enter_find (.pointer (some ⟨g, 0, none⟩)) (isF nm l) vs A c W ((hvs.below k).mono k.size) hlen (fun v hv W2 k2 => by
      have := find1_any v ⟨0, nm, ⟨#[]⟩, A0, c0, l⟩ g W2 ((((hvs.below k).mono k.size).all v hv).below k2 |>.mono k2.size) ((hq.below k).mono k.size |>.below k2 |>.mono k2.size).d (kc k2 hg q0) (kc k2 hg q1) (kc k2 hg q2) (kc k2 hg q3)
      rw [isF_cmp] at this
      exact this)
  have hfv : findV vs nm l = vs.find? (isF nm l) := rfl
  rw [hfv]
  clear hfv
  obtain ⟨n, hn⟩ : ∃ n, n = vs.length := ⟨_, rfl⟩
  obtain ⟨lq, hlq⟩ : ∃ n, n = l.length := ⟨_, rfl⟩
  obtain ⟨R, hR⟩ : ∃ R, R = vs.find? (isF nm l) := ⟨_, rfl⟩
  obtain ⟨I, hI⟩ : ∃ I, I = idxP (isF nm l) vs := ⟨_, rfl⟩
  rw [← hI, ← hn, ← hlq] at cix
  rw [← hI, ← hR] at hidx
  rw [← hn, ← hlq, ← hR]
  have hlnI : (n : Int) ≤ 140737488355328 := by omega
  have h3 := fun (w1 : World) (e : w1 = _) => Blk.triple (w := w) (w1 := w1) (cs := [.int .i64 p, .slice A n c, .int .u64 r]) (ds := [.int .i64 0, .string ⟨#[]⟩, .string ⟨#[]⟩, .slice none 0 0, .int .i64 0, .int .u64 0, .slice none 0 0, .int .u64 0, .float .f64 0, .float .f64 0, .float .f64 0]) (es := [.int .i64 0, .string nm, .string ⟨#[]⟩, .slice A0 lq c0]) (T := 25) (U := 49) (X := 43) e
  have hsf := fun (a : Addr) (x : Nat) (W : World) => run_store Tryz.prog W a (.float .f64 x) .plain rfl
  replace h3 := Lib.hid h3
  replace hidx := Lib.hid hidx
  replace cix := Lib.hid cix
  replace hvs := Lib.hid hvs
  replace hn := Lib.hid hn
  replace hb := Lib.hid hb
  clear h hq hR hI hlq hlen
  go_enter Tryz.func24, Tryz.ntmps24
  go_upto_region 2 with fail
  obtain ⟨w1, hw1⟩ : ∃ w1, w1 = (((w.alloc (.cells #[.int .i64 p, .slice A n c, .int .u64 r] 25)).alloc (.cells #[.int .i64 0, .string ⟨#[]⟩, .string ⟨#[]⟩, .slice none 0 0, .int .i64 0, .int .u64 0, .slice none 0 0, .int .u64 0, .float .f64 0, .float .f64 0, .float .f64 0] 49)).alloc (.cells #[.int .i64 0, .string nm, .string ⟨#[]⟩, .slice A0 lq c0] 43)) := ⟨_, rfl⟩
  rw [← hw1]
  obtain ⟨k1, k2, k3, hb1⟩ := h3.out w1 hw1
  clear hw1 h3
  have y1 := (k1.2 1 _ rfl).1
  have hcix := cix.out w1 (w.heap.size + 1 + 1) hb1 k3.1 (k3.2 0 _ rfl).1 (k3.2 1 _ rfl).1 (k3.2 2 _ rfl).1 (k3.2 3 _ rfl).1
  clear cix
  go_wp2_with fail
  refine hcix.mono ?_
  rintro e w2 ⟨rfl, hb2⟩
  clear y1 hcix
  replace k1 := k1.later hb2
  replace k2 := k2.later hb2
  have hbw := hb1.trans (hb2.mono hb1.size)
  have r0 := (k2.2 0 _ rfl).1
  have r1 := (k2.2 1 _ rfl).1
  have r2 := (k2.2 2 _ rfl).1
  have r3 := (k2.2 3 _ rfl).1
  have r4 := (k2.2 4 _ rfl).1
  have r5 := (k2.2 5 _ rfl).1
  have r6 := (k2.2 6 _ rfl).1
  have r7 := (k2.2 7 _ rfl).1
  have r8 := (k2.2 8 _ rfl).1
  have r9 := (k2.2 9 _ rfl).1
  have r10 := (k2.2 10 _ rfl).1
  have s0 := (k2.2 0 _ rfl).2
  have s1 := (k2.2 1 _ rfl).2
  have s2 := (k2.2 2 _ rfl).2
  have s3 := (k2.2 3 _ rfl).2
  have s4 := (k2.2 4 _ rfl).2
  have s5 := (k2.2 5 _ rfl).2
  have s6 := (k2.2 6 _ rfl).2
  have s7 := (k2.2 7 _ rfl).2
  have s8 := (k2.2 8 _ rfl).2
  have s9 := (k2.2 9 _ rfl).2
  have s10 := (k2.2 10 _ rfl).2
  rcases hidx.out with ⟨e1, e2⟩ | ⟨i, hi, e1, e2⟩
  · subst e1 e2
    have g1 : (-1 : Int) < 0 := by decide
    clear hidx
    go_wp2
    try simp only [Exit.inBlock, Exit.then]
    refine bodyPost_ret (retVE rfl rfl rfl (k2.st11 rfl _ _ _ _ _ _ _ _ _ _ _)) rfl ?_
    refine ⟨by have := hbw; go_grown, zeroV, ?_, (zeroV_own _ 0).vat zeroV_plain, zeroV_own _ _, rfl⟩
    exact congrArg (fun v => Ending.returned (.tuple #[v, .int .i64 6])) zeroV_v.symm
  · subst e1
    obtain ⟨b, off, hA, hbB, x0, x1, x2, x3, x4, x5, x6, x7, x8, x9, x10⟩ := (hvs.out.below hbw).cells i hi
    obtain ⟨v, hv⟩ : ∃ v, v = vs[i] := ⟨_, rfl⟩
    have va : VAt v w2 w2.heap.size := by rw [hv]; exact ((hvs.out.all _ (List.getElem_mem hi)).below hbw).mono hbw.size
    have hbv := hb.out v (by rw [hv]; exact List.getElem_mem hi)
    have ccv := copyV_any v w2 va hbv.1 hbv.2
    have hlt : i < n := by rw [hn.out]; exact hi
    rw [← hv] at x0 x1 x2 x3 x4 x5 x6 x7 x8 x9 x10
    rw [← hv] at e2
    subst hA e2
    unfold Vv.v at ccv
    obtain ⟨ln, hln⟩ : ∃ ln, ln = v.d.l.length := ⟨_, rfl⟩
    obtain ⟨cn, hcn⟩ : ∃ cn, cn = v.cs.length := ⟨_, rfl⟩
    rw [← hln] at x3 ccv
    rw [← hcn] at x6 ccv
    have g1 : (i : Int) < (n : Int) := by omega
    have g0 : (0 : Int) ≤ (i : Int) := by omega
    have g2 : ¬ (i : Int) < 0 := by omega
    have y1 := (k1.2 1 _ rfl).1
    replace ccv := Lib.hid ccv
    replace hv := Lib.hid hv
    replace hln := Lib.hid hln
    replace hcn := Lib.hid hcn
    replace va := Lib.hid va
    clear hbv
    go_wp2_with fail
    refine ccv.out.mono ?_
    rintro e w3 ⟨v', rfl, hnv, hb3⟩
    have own3 := hnv.own2
    have plain3 := (hnv.at va.out).plain
    have hcc := hnv.c
    replace k2 := k2.later hb3
    have hbw3 := hbw.trans (hb3.mono hbw.size)
    clear r0 r1 r2 r3 r4 r5 r6 r7 r8 r9 r10 s0 s1 s2 s3 s4 s5 s6 s7 s8 s9 s10 x0 x1 x2 x3 x4 x5 x6 x7 x8 x9 x10 y1 ccv
    have r0 := (k2.2 0 _ rfl).1
    have r1 := (k2.2 1 _ rfl).1
    have r2 := (k2.2 2 _ rfl).1
    have r3 := (k2.2 3 _ rfl).1
    have r4 := (k2.2 4 _ rfl).1
    have r5 := (k2.2 5 _ rfl).1
    have r6 := (k2.2 6 _ rfl).1
    have r7 := (k2.2 7 _ rfl).1
    have r8 := (k2.2 8 _ rfl).1
    have r9 := (k2.2 9 _ rfl).1
    have r10 := (k2.2 10 _ rfl).1
    have s0 := (k2.2 0 _ rfl).2
    have s1 := (k2.2 1 _ rfl).2
    have s2 := (k2.2 2 _ rfl).2
    have s3 := (k2.2 3 _ rfl).2
    have s4 := (k2.2 4 _ rfl).2
    have s5 := (k2.2 5 _ rfl).2
    have s6 := (k2.2 6 _ rfl).2
    have s7 := (k2.2 7 _ rfl).2
    have s8 := (k2.2 8 _ rfl).2
    have s9 := (k2.2 9 _ rfl).2
    have s10 := (k2.2 10 _ rfl).2
    have hsz : w.heap.size + 1 < w2.heap.size := by have := hb1.size; have := hb2.size; have := k3.1; omega
    replace hnv := Lib.hid hnv
    replace hcc := Lib.hid hcc
    replace plain3 := Lib.hid plain3
    clear hidx
    go_wp2
    try simp only [Exit.inBlock, Exit.then]
    refine bodyPost_ret (retVE rfl rfl rfl (k2.st11 rfl _ _ _ _ _ _ _ _ _ _ _)) rfl ?_
    refine ⟨by have := hbw3; go_grown, v', by first | rfl | simp, ?_, ?_, hcc.out⟩
    · exact (OwnV.st11 own3 hsz _ _ _ _ _ _ _ _ _ _ _).vat plain3.out
    · exact (OwnV.st11 own3 hsz _ _ _ _ _ _ _ _ _ _ _).base (by omega)
end Go.Proofs.YtpiegngjpnpohaaGreat.Sn

namespace Go.Proofs.YtpiegngjpnpohaaGreat.Sn
open Go.RowKit Go.Proofs.YtpiegngjpnpohaaGreat.La Go.Proofs.YtpiegngjpnpohaaGreat.Sl Go.Proofs.YtpiegngjpnpohaaGreat.Ck Go.Proofs.YtpiegngjpnpohaaGreat.Rc Go.Proofs.YtpiegngjpnpohaaGreat.Rk Go.Proofs.YtpiegngjpnpohaaGreat.Wi Go.Proofs.YtpiegngjpnpohaaGreat.Fb Go.Proofs.YtpiegngjpnpohaaGreat.Mg Go.Proofs.YtpiegngjpnpohaaGreat.St
set_option linter.unusedVariables false
def RFindP (w : World) (o : Option Vv) (e : Ending) (w' : World) : Prop :=
  Below w.heap.size w w' ∧ ∃ v' : Vv, e = .returned (.tuple #[v'.v, .int .i64 (if o = none then 6 else 0)]) ∧ VAt v' w' w'.heap.size ∧ v' = (match o with | none => zeroV | some v => v)
theorem VAt.st11 {v : Vv} {w : World} (h : VAt v w w.heap.size) : PlainV v := h.plain
set_option maxRecDepth 100000 in
set_option maxHeartbeats 2000000 in
theorem rfind_any (s : Ss) (nm : ByteArray) (A0 : Option Addr) (c0 : Nat) (l : List Lab) (w : World) (h : SAt s w w.heap.size) (hq : QAt nm A0 c0 l w w.heap.size) :
    Calls Tryz.prog 25 #[s.v, .string nm, .slice A0 l.length c0] w (RFindP w (findV s.vs nm l)) := by
  have hvs := h.vs
  have hlen := h.len2
  obtain ⟨p, A, c, vs, r⟩ := s
  unfold Ss.v
  dsimp only at *
  have csl := fun (v : Vv) (hv : v ∈ vs) (W : World) (k : Below w.heap.size w W) => Sm.same_any v.d.A A0 v.d.c c0 v.d.l l W (((hvs.below k).mono k.size).all v hv).d.rd ((hq.below k).mono k.size).rd (hvs.all v hv).d.len2 hq.len2
  obtain ⟨n, hn⟩ : ∃ n, n = vs.length := ⟨_, rfl⟩
  obtain ⟨lq, hlq⟩ : ∃ n, n = l.length := ⟨_, rfl⟩
  obtain ⟨R, hR⟩ : ∃ R, R = findV vs nm l := ⟨_, rfl⟩
  rw [← hlq] at csl
  rw [← hn, ← hlq, ← hR]
  have hlnI : (n : Int) ≤ 140737488355328 := by omega
  have h2 := fun (w1 : World) (e : w1 = _) => Blk.pair (w := w) (w1 := w1) (cs := [.int .i64 p, .slice A n c, .int .u64 r]) (ds := [.int .i64 0, .string ⟨#[]⟩, .string ⟨#[]⟩, .slice none 0 0, .int .i64 0, .int .u64 0, .slice none 0 0, .int .u64 0, .float .f64 0, .float .f64 0, .float .f64 0]) (T := 25) (U := 49) e
  have hsf := fun (a : Addr) (x : Nat) (W : World) => run_store Tryz.prog W a (.float .f64 x) .plain rfl
  obtain ⟨Pst, hPst⟩ : ∃ P, P = RFindP w R := ⟨_, rfl⟩
  rw [← hPst]
  replace hPst := Lib.hid hPst
  replace h2 := Lib.hid h2
  replace csl := Lib.hid csl
  replace hvs := Lib.hid hvs
  replace hn := Lib.hid hn
  replace hlq := Lib.hid hlq
  replace hR := Lib.hid hR
  clear h hq hlen
  go_enter Tryz.func25, Tryz.ntmps25
  go_upto_region 1 with fail
  obtain ⟨w1, hw1⟩ : ∃ w1, w1 = ((w.alloc (.cells #[.int .i64 p, .slice A n c, .int .u64 r] 25)).alloc (.cells #[.int .i64 0, .string ⟨#[]⟩, .string ⟨#[]⟩, .slice none 0 0, .int .i64 0, .int .u64 0, .slice none 0 0, .int .u64 0, .float .f64 0, .float .f64 0, .float .f64 0] 49)) := ⟨_, rfl⟩
  rw [← hw1]
  obtain ⟨k1, k2, hb1⟩ := h2.out w1 hw1
  clear hw1 h2
  go_wp2
  go_loopw [8] (fun v wr => ∃ i : Nat, v = .int .i64 (i : Int) ∧ i ≤ n ∧ Below w1.heap.size w1 wr ∧ Hid (∀ j, j < i → ∀ x, vs[j]? = some x → isF nm l x = false)) (fun v _ => n - (intOf v).toNat)
  case atStart => exact ⟨0, rfl, Nat.zero_le _, Below.refl _ _, Lib.hid (fun j hj => absurd hj (by omega))⟩
  case round =>
    obtain ⟨i, rfl, hi, hbr, hpre⟩ := hrel
    have m1 := k1.later hbr
    have m2 := k2.later hbr
    have u1 := (m1.2 1 _ rfl).1
    have hw : Below w.heap.size w wr := hb1.trans (hbr.mono hb1.size)
    by_cases hlt : i < n
    · have hil : i < vs.length := by rw [← hn.out]; exact hlt
      obtain ⟨b, off, hA, hbB, x0, x1, x2, x3, x4, x5, x6, x7, x8, x9, x10⟩ := (hvs.out.below hw).cells i hil
      obtain ⟨v, hv⟩ : ∃ v, v = vs[i] := ⟨_, rfl⟩
      have cs1 := csl.out v (by rw [hv]; exact List.getElem_mem hil)
      have va : VAt v w w.heap.size := by rw [hv]; exact hvs.out.all _ (List.getElem_mem hil)
      rw [← hv] at x0 x1 x2 x3 x4 x5 x6 x7 x8 x9 x10
      subst hA
      have gI : (i : Int) < (n : Int) := by omega
      have gI0 : (0 : Int) ≤ (i : Int) := by omega
      have hbn := beqS v.d.name nm
      have hF : isF nm l v = (decide (v.d.name = nm) && decide (v.d.l = l)) := rfl
      generalize decide (v.d.name = nm) = bn at *
      generalize decide (v.d.l = l) = bl at *
      have hgo : isF nm l v = false → Hid (∀ j, j < i + 1 → ∀ x, vs[j]? = some x → isF nm l x = false) := fun e => Lib.hid fun j hj x hx => by
        by_cases ej : j = i
        · subst ej
          rw [List.getElem?_eq_getElem hil, ← hv] at hx
          cases hx; exact e
        · exact hpre.out j (by omega) x hx
      have hyes : isF nm l v = true → R = some v := fun e => by
        rw [hR.out]
        unfold findV
        rw [List.find?_eq_some_iff_getElem]
        exact ⟨e, i, hil, hv.symm, fun j hj => by simpa using hpre.out j hj _ (List.getElem?_eq_getElem (by omega))⟩
      have hbw : b < wr.heap.size := by have := hw.size; omega
      have hl1 := m1.1
      have hl2 := m2.1
      replace hv := Lib.hid hv
      replace va := Lib.hid va
      replace cs1 := Lib.hid cs1
      replace hF := Lib.hid hF
      replace hgo := Lib.hid hgo
      replace hyes := Lib.hid hyes
      go_upto_region 5 with fail
      have hb3 : Below wr.heap.size wr (wr.alloc (.cells #[.int .i64 v.d.kind, .string v.d.name, .string v.d.help, .slice v.d.A v.d.l.length v.d.c] 43)) := (Below.refl _ _).alloc (Nat.le_refl _) _
      have hk := Blk.new wr [.int .i64 v.d.kind, .string v.d.name, .string v.d.help, .slice v.d.A v.d.l.length v.d.c] 43
      obtain ⟨w3, hw3⟩ : ∃ w3, w3 = wr.alloc (.cells #[.int .i64 v.d.kind, .string v.d.name, .string v.d.help, .slice v.d.A v.d.l.length v.d.c] 43) := ⟨_, rfl⟩
      have k3 : Blk w3 wr.heap.size [.int .i64 v.d.kind, .string v.d.name, .string v.d.help, .slice v.d.A v.d.l.length v.d.c] := by rw [hw3]; exact hk
      rw [← hw3] at hb3 ⊢
      clear hw3 hk
      have hbw3 := hw.trans (hb3.mono hw.size)
      have z3 := (k3.2 3 _ rfl).1
      go_wp2_with fail
      refine (cs1.out _ hbw3).mono ?_
      rintro e w4 ⟨rfl, hb4⟩
      clear z3 cs1
      have hb34 : Below wr.heap.size wr w4 := hb3.trans (hb4.mono hb3.size)
      have hbr4 := hbr.trans (hb34.mono hbr.size)
      have hbw4 := hw.trans (hb34.mono hw.size)
      have z1 := ((k3.later hb4).2 1 _ rfl).1
      by_cases hyn : (bn && bl) = true
      · obtain ⟨rfl, rfl⟩ : bn = true ∧ bl = true := by simpa using hyn
        obtain rfl := hyes.out (by rw [hF.out]; rfl)
        have y1 := kc hb34 hl1 u1
        replace x0 := kc hb34 hbw x0
        replace x1 := kc hb34 hbw x1
        replace x2 := kc hb34 hbw x2
        replace x3 := kc hb34 hbw x3
        replace x4 := kc hb34 hbw x4
        replace x5 := kc hb34 hbw x5
        replace x6 := kc hb34 hbw x6
        replace x7 := kc hb34 hbw x7
        replace x8 := kc hb34 hbw x8
        replace x9 := kc hb34 hbw x9
        replace x10 := kc hb34 hbw x10
        have m2' := m2.later hb34
        have r0 := (m2'.2 0 _ rfl).1
        have r1 := (m2'.2 1 _ rfl).1
        have r2 := (m2'.2 2 _ rfl).1
        have r3 := (m2'.2 3 _ rfl).1
        have r4 := (m2'.2 4 _ rfl).1
        have r5 := (m2'.2 5 _ rfl).1
        have r6 := (m2'.2 6 _ rfl).1
        have r7 := (m2'.2 7 _ rfl).1
        have r8 := (m2'.2 8 _ rfl).1
        have r9 := (m2'.2 9 _ rfl).1
        have r10 := (m2'.2 10 _ rfl).1
        have s0 := (m2'.2 0 _ rfl).2
        have s1 := (m2'.2 1 _ rfl).2
        have s2 := (m2'.2 2 _ rfl).2
        have s3 := (m2'.2 3 _ rfl).2
        have s4 := (m2'.2 4 _ rfl).2
        have s5 := (m2'.2 5 _ rfl).2
        have s6 := (m2'.2 6 _ rfl).2
        have s7 := (m2'.2 7 _ rfl).2
        have s8 := (m2'.2 8 _ rfl).2
        have s9 := (m2'.2 9 _ rfl).2
        have s10 := (m2'.2 10 _ rfl).2
        clear u1 hgo hyes hpre
        go_wp2
        try simp only [Exit.inBlock, Exit.then]
        refine bodyPost_ret (retVE rfl rfl rfl (m2'.st11 rfl _ _ _ _ _ _ _ _ _ _ _)) rfl ?_
        rw [hPst.out]
        have hbf := below_st11 hbw4 (b := w.heap.size + 1) (by omega)
        exact ⟨hbf _ _ _ _ _ _ _ _ _ _ _, v, rfl, (va.out.below (hbf _ _ _ _ _ _ _ _ _ _ _)).mono (hbf _ _ _ _ _ _ _ _ _ _ _).size, rfl⟩
      · have hst := hgo.out (by rw [hF.out]; simpa using hyn)
        clear x0 x1 x2 x3 x4 x5 x6 x7 x8 x9 x10 u1 hyes hgo
        cases bn
        · go_wp2
          exact ⟨⟨i + 1, by go_num, hlt, hbr4, hst⟩, by simp [intOf]; omega⟩
        · cases bl
          · go_wp2
            exact ⟨⟨i + 1, by go_num, hlt, hbr4, hst⟩, by simp [intOf]; omega⟩
          · exact absurd rfl hyn
    · obtain rfl : i = n := by omega
      have hno : R = none := by
        rw [hR.out]
        unfold findV
        rw [List.find?_eq_none]
        intro x hx
        obtain ⟨j, hj, rfl⟩ := List.mem_iff_getElem.1 hx
        simp [hpre.out j (by rw [hn.out]; exact hj) _ (List.getElem?_eq_getElem hj)]
      subst hno
      have r0 := (m2.2 0 _ rfl).1
      have r1 := (m2.2 1 _ rfl).1
      have r2 := (m2.2 2 _ rfl).1
      have r3 := (m2.2 3 _ rfl).1
      have r4 := (m2.2 4 _ rfl).1
      have r5 := (m2.2 5 _ rfl).1
      have r6 := (m2.2 6 _ rfl).1
      have r7 := (m2.2 7 _ rfl).1
      have r8 := (m2.2 8 _ rfl).1
      have r9 := (m2.2 9 _ rfl).1
      have r10 := (m2.2 10 _ rfl).1
      have s0 := (m2.2 0 _ rfl).2
      have s1 := (m2.2 1 _ rfl).2
      have s2 := (m2.2 2 _ rfl).2
      have s3 := (m2.2 3 _ rfl).2
      have s4 := (m2.2 4 _ rfl).2
      have s5 := (m2.2 5 _ rfl).2
      have s6 := (m2.2 6 _ rfl).2
      have s7 := (m2.2 7 _ rfl).2
      have s8 := (m2.2 8 _ rfl).2
      have s9 := (m2.2 9 _ rfl).2
      have s10 := (m2.2 10 _ rfl).2
      go_wp2
      try simp only [Exit.inBlock, Exit.then]
      refine bodyPost_ret (retVE rfl rfl rfl (m2.st11 rfl _ _ _ _ _ _ _ _ _ _ _)) rfl ?_
      rw [hPst.out]
      refine ⟨below_st11 hw (by omega) _ _ _ _ _ _ _ _ _ _ _, zeroV, ?_, (zeroV_own _ 0).vat zeroV_plain, rfl⟩
      exact congrArg (fun v => Ending.returned (.tuple #[v, .int .i64 6])) zeroV_v.symm
end Go.Proofs.YtpiegngjpnpohaaGreat.Sn

namespace Go.Proofs.YtpiegngjpnpohaaGreat.Sn
open Go.RowKit Go.Proofs.YtpiegngjpnpohaaGreat.La Go.Proofs.YtpiegngjpnpohaaGreat.Sl Go.Proofs.YtpiegngjpnpohaaGreat.Ck Go.Proofs.YtpiegngjpnpohaaGreat.Rc Go.Proofs.YtpiegngjpnpohaaGreat.Rk Go.Proofs.YtpiegngjpnpohaaGreat.Wi Go.Proofs.YtpiegngjpnpohaaGreat.Fb Go.Proofs.YtpiegngjpnpohaaGreat.Mg Go.Proofs.YtpiegngjpnpohaaGreat.St
set_option linter.unusedVariables false
def quaO (p num den : Int) : Option Vv → Int × Int
  | none => (0, 6)
  | some v => if v.d.kind ≠ 2 then (0, 7) else (quaI p v.cs num den, quaE p v.cs num den)
theorem quaO_2 (p num den : Int) {v : Vv} (h : v.d.kind = 2) : quaO p num den (some v) = (quaI p v.cs num den, quaE p v.cs num den) := if_neg (fun e => e h)
theorem quaO_n (p num den : Int) {v : Vv} (h : v.d.kind ≠ 2) : quaO p num den (some v) = (0, 7) := if_pos h
def quaV (s : Ss) (nm : ByteArray) (l : List Lab) (num den : Int) : Int × Int := quaO s.p num den (findV s.vs nm l)
def FindQ (w : World) (o : Option Vv) (e : Ending) (w' : World) : Prop :=
  Below w.heap.size w w' ∧ ∃ v' : Vv, e = .returned (.tuple #[v'.v, .int .i64 (if o = none then 6 else 0)]) ∧ VAt v' w' w'.heap.size ∧ (∀ v, o = some v → v'.d.kind = v.d.kind ∧ v'.cs = v.cs)
theorem FindPost.q {w w' : World} {o : Option Vv} {e : Ending} (h : FindPost w o e w') : FindQ w o e w' := by
  obtain ⟨hb, v', he, hv, _, hc⟩ := h
  refine ⟨hb, v', he, hv, fun v ho => ?_⟩
  subst ho
  have hc : v'.c = v.c := hc
  exact ⟨congrArg Cv.kind hc, congrArg Cv.cs hc⟩
theorem RFindP.q {w w' : World} {o : Option Vv} {e : Ending} (h : RFindP w o e w') : FindQ w o e w' := by
  obtain ⟨hb, v', he, hv, hc⟩ := h
  refine ⟨hb, v', he, hv, fun v ho => ?_⟩
  subst ho
  have hc : v' = v := hc
  subst hc
  exact ⟨rfl, rfl⟩
set_option maxRecDepth 100000 in
set_option maxHeartbeats 2000000 in
theorem squant_walk (s : Ss) (nm : ByteArray) (A0 : Option Addr) (c0 lq : Nat) (num den : Int) (w : World) (o : Option Vv) (h : SAt s w w.heap.size) (hd : den ≤ 9223372036854775807)
    (cf : ∀ W, Below w.heap.size w W → Calls Tryz.prog 24 #[s.v, .string nm, .slice A0 lq c0] W (FindQ W o)) :
    Calls Tryz.prog 27 #[s.v, .string nm, .slice A0 lq c0, .int .i64 num, .int .i64 den] w fun e w' => e = .returned (.tuple #[.int .i64 (quaO s.p num den o).1, .int .i64 (quaO s.p num den o).2]) ∧ Below w.heap.size w w' := by
  have hsf := fun (a : Addr) (x : Nat) (W : World) => run_store Tryz.prog W a (.float .f64 x) .plain rfl
  obtain ⟨p, A, c, vs, r⟩ := s
  unfold Ss.v at *
  dsimp only at *
  have h1 := fun (W : World) => Blk.new W [.int .i64 p, .slice A vs.length c, .int .u64 r] 25
  generalize vs.length = n at *
  clear h
  have hcase : (∃ r1 r2 : Int, quaO p num den o = (r1, r2) ∧ ((o = none ∧ r1 = 0 ∧ r2 = 6) ∨ ∃ v, o = some v ∧ ((v.d.kind ≠ 2 ∧ r1 = 0 ∧ r2 = 7) ∨ (v.d.kind = 2 ∧ r1 = quaI p v.cs num den ∧ r2 = quaE p v.cs num den)))) := by
    refine ⟨_, _, rfl, ?_⟩
    cases o with
    | none => exact .inl ⟨rfl, rfl, rfl⟩
    | some v =>
      refine .inr ⟨v, rfl, ?_⟩
      by_cases hk : v.d.kind = 2
      · exact .inr ⟨hk, congrArg Prod.fst (quaO_2 p num den hk), congrArg Prod.snd (quaO_2 p num den hk)⟩
      · exact .inl ⟨hk, congrArg Prod.fst (quaO_n p num den hk), congrArg Prod.snd (quaO_n p num den hk)⟩
  obtain ⟨r1, r2, hq, hcase⟩ := hcase
  rw [hq]
  dsimp only
  obtain ⟨ee, hee⟩ : ∃ ee : Int, ee = if o = none then 6 else 0 := ⟨_, rfl⟩
  have cf' : ∀ W, Below w.heap.size w W → Calls Tryz.prog 24 #[.agg #[.int .i64 p, .slice A n c, .int .u64 r], .string nm, .slice A0 lq c0] W fun e w' => ∃ v' : Vv, e = .returned (.tuple #[v'.v, .int .i64 ee]) ∧ Below W.heap.size W w' ∧ VAt v' w' w'.heap.size ∧ (∀ v, o = some v → v'.d.kind = v.d.kind ∧ v'.cs = v.cs) := fun W k => (cf W k).mono fun e w' ⟨hb, v', he, hv, ho⟩ => ⟨v', by rw [hee]; exact he, hb, hv, ho⟩
  clear hq cf
  unfold Vv.v at cf'
  replace cf' := Lib.hid cf'
  replace h1 := Lib.hid h1
  replace hee := Lib.hid hee
  replace hcase := Lib.hid hcase
  go_enter Tryz.func27, Tryz.ntmps27
  go_upto_region 1 with fail
  have hb1 : Below w.heap.size w (w.alloc (.cells #[.int .i64 p, .slice A n c, .int .u64 r] 25)) := (Below.refl _ _).alloc (Nat.le_refl _) _
  obtain ⟨w1, hw1⟩ : ∃ w1, w1 = w.alloc (.cells #[.int .i64 p, .slice A n c, .int .u64 r] 25) := ⟨_, rfl⟩
  have k1 : Blk w1 w.heap.size [.int .i64 p, .slice A n c, .int .u64 r] := by rw [hw1]; exact h1.out w
  rw [← hw1] at hb1 ⊢
  clear hw1 h1
  have x0 := (k1.2 0 _ rfl).1
  have x1 := (k1.2 1 _ rfl).1
  have x2 := (k1.2 2 _ rfl).1
  go_wp2_with fail
  refine (cf'.out _ hb1).mono ?_
  rintro e w2 ⟨v', rfl, hb2, hva, hvo⟩
  clear x0 x1 x2 cf'
  have k2 := k1.later hb2
  have hbw2 := hb1.trans (hb2.mono hb1.size)
  have hl := k2.1
  have hnew := Blk.new w2 v'.row 49
  unfold Vv.row at hnew
  replace hva := Lib.hid hva
  replace hvo := Lib.hid hvo
  go_upto_region 2 with fail
  obtain ⟨w3, hw3⟩ : ∃ w3, w3 = w2.alloc (.cells #[.int .i64 v'.d.kind, .string v'.d.name, .string v'.d.help, .slice v'.d.A v'.d.l.length v'.d.c, .int .i64 (hiI v'.t), .int .u64 (loI v'.t), .slice v'.CA v'.cs.length v'.cc, .int .u64 v'.n, .float .f64 v'.sm, .float .f64 v'.mn, .float .f64 v'.mx] 49) := ⟨_, rfl⟩
  have k3 : Blk w3 w2.heap.size [.int .i64 v'.d.kind, .string v'.d.name, .string v'.d.help, .slice v'.d.A v'.d.l.length v'.d.c, .int .i64 (hiI v'.t), .int .u64 (loI v'.t), .slice v'.CA v'.cs.length v'.cc, .int .u64 v'.n, .float .f64 v'.sm, .float .f64 v'.mn, .float .f64 v'.mx] := by rw [hw3]; exact hnew
  have hb3 : Below w2.heap.size w2 w3 := by rw [hw3]; exact (Below.refl _ _).alloc (Nat.le_refl _) _
  rw [← hw3]
  clear hw3 hnew
  have hbw3 := hbw2.trans (hb3.mono hbw2.size)
  have y0 := (k3.2 0 _ rfl).1
  have y6 := (k3.2 6 _ rfl).1
  have x0 := ((k2.later hb3).2 0 _ rfl).1
  have hvo' := hvo.out
  have hva' := (hva.out.below hb3).mono hb3.size
  rcases hcase.out with ⟨rfl, rfl, rfl⟩ | ⟨v, rfl, hk⟩
  · have e6 : ee = 6 := hee.out
    clear hee hvo hvo' hcase
    subst e6
    go_wp2
    go_ret2
    exact ⟨rfl, hbw3⟩
  · have e0 : ee = 0 := hee.out
    obtain ⟨hkk, hcs⟩ := hvo' v rfl
    clear hee hvo hvo' hcase
    subst e0
    rcases hk with ⟨hk, rfl, rfl⟩ | ⟨hk, hr1, hr2⟩
    · have gk : (v'.d.kind != 2) = true := by rw [hkk]; simpa using hk
      replace hkk := Lib.hid hkk
      replace hk := Lib.hid hk
      replace hcs := Lib.hid hcs
      go_wp2
      go_ret2
      exact ⟨rfl, hbw3⟩
    · have gk : (v'.d.kind != 2) = false := by rw [hkk, hk]; decide
      have cq := Rk.quantile_any w3 w3.heap.size p v'.cs v'.CA v'.cc num den hva'.cs (Nat.le_refl _) hd
      rw [hcs, ← hr1, ← hr2, ← hcs] at cq
      replace hkk := Lib.hid hkk
      replace hk := Lib.hid hk
      replace hcs := Lib.hid hcs
      replace hr1 := Lib.hid hr1
      replace hr2 := Lib.hid hr2
      go_wp2_with fail
      refine cq.mono ?_
      rintro e w4 ⟨rfl, hb4⟩
      go_wp2
      go_ret2
      exact ⟨rfl, hbw3.trans (hb4.mono hbw3.size)⟩
set_option maxRecDepth 100000 in
set_option maxHeartbeats 2000000 in
theorem rsquant_walk (s : Ss) (nm : ByteArray) (A0 : Option Addr) (c0 lq : Nat) (num den : Int) (w : World) (o : Option Vv) (h : SAt s w w.heap.size) (hd : den ≤ 9223372036854775807)
    (cf : ∀ W, Below w.heap.size w W → Calls Tryz.prog 25 #[s.v, .string nm, .slice A0 lq c0] W (FindQ W o)) :
    Calls Tryz.prog 28 #[s.v, .string nm, .slice A0 lq c0, .int .i64 num, .int .i64 den] w fun e w' => e = .returned (.tuple #[.int .i64 (quaO s.p num den o).1, .int .i64 (quaO s.p num den o).2]) ∧ Below w.heap.size w w' := by
  have hsf := fun (a : Addr) (x : Nat) (W : World) => run_store Tryz.prog W a (.float .f64 x) .plain rfl
  obtain ⟨p, A, c, vs, r⟩ := s
  unfold Ss.v at *
  dsimp only at *
  have h1 := fun (W : World) => Blk.new W [.int .i64 p, .slice A vs.length c, .int .u64 r] 25
  generalize vs.length = n at *
  clear h
  have hcase : (∃ r1 r2 : Int, quaO p num den o = (r1, r2) ∧ ((o = none ∧ r1 = 0 ∧ r2 = 6) ∨ ∃ v, o = some v ∧ ((v.d.kind ≠ 2 ∧ r1 = 0 ∧ r2 = 7) ∨ (v.d.kind = 2 ∧ r1 = quaI p v.cs num den ∧ r2 = quaE p v.cs num den)))) := by
    refine ⟨_, _, rfl, ?_⟩
    cases o with
    | none => exact .inl ⟨rfl, rfl, rfl⟩
    | some v =>
      refine .inr ⟨v, rfl, ?_⟩
      by_cases hk : v.d.kind = 2
      · exact .inr ⟨hk, congrArg Prod.fst (quaO_2 p num den hk), congrArg Prod.snd (quaO_2 p num den hk)⟩
      · exact .inl ⟨hk, congrArg Prod.fst (quaO_n p num den hk), congrArg Prod.snd (quaO_n p num den hk)⟩
  obtain ⟨r1, r2, hq, hcase⟩ := hcase
  rw [hq]
  dsimp only
  obtain ⟨ee, hee⟩ : ∃ ee : Int, ee = if o = none then 6 else 0 := ⟨_, rfl⟩
  have cf' : ∀ W, Below w.heap.size w W → Calls Tryz.prog 25 #[.agg #[.int .i64 p, .slice A n c, .int .u64 r], .string nm, .slice A0 lq c0] W fun e w' => ∃ v' : Vv, e = .returned (.tuple #[v'.v, .int .i64 ee]) ∧ Below W.heap.size W w' ∧ VAt v' w' w'.heap.size ∧ (∀ v, o = some v → v'.d.kind = v.d.kind ∧ v'.cs = v.cs) := fun W k => (cf W k).mono fun e w' ⟨hb, v', he, hv, ho⟩ => ⟨v', by rw [hee]; exact he, hb, hv, ho⟩
  clear hq cf
  unfold Vv.v at cf'
  replace cf' := Lib.hid cf'
  replace h1 := Lib.hid h1
  replace hee := Lib.hid hee
  replace hcase := Lib.hid hcase
  go_enter Tryz.func28, Tryz.ntmps28
  go_upto_region 1 with fail
  have hb1 : Below w.heap.size w (w.alloc (.cells #[.int .i64 p, .slice A n c, .int .u64 r] 25)) := (Below.refl _ _).alloc (Nat.le_refl _) _
  obtain ⟨w1, hw1⟩ : ∃ w1, w1 = w.alloc (.cells #[.int .i64 p, .slice A n c, .int .u64 r] 25) := ⟨_, rfl⟩
  have k1 : Blk w1 w.heap.size [.int .i64 p, .slice A n c, .int .u64 r] := by rw [hw1]; exact h1.out w
  rw [← hw1] at hb1 ⊢
  clear hw1 h1
  have x0 := (k1.2 0 _ rfl).1
  have x1 := (k1.2 1 _ rfl).1
  have x2 := (k1.2 2 _ rfl).1
  go_wp2_with fail
  refine (cf'.out _ hb1).mono ?_
  rintro e w2 ⟨v', rfl, hb2, hva, hvo⟩
  clear x0 x1 x2 cf'
  have k2 := k1.later hb2
  have hbw2 := hb1.trans (hb2.mono hb1.size)
  have hl := k2.1
  have hnew := Blk.new w2 v'.row 49
  unfold Vv.row at hnew
  replace hva := Lib.hid hva
  replace hvo := Lib.hid hvo
  go_upto_region 2 with fail
  obtain ⟨w3, hw3⟩ : ∃ w3, w3 = w2.alloc (.cells #[.int .i64 v'.d.kind, .string v'.d.name, .string v'.d.help, .slice v'.d.A v'.d.l.length v'.d.c, .int .i64 (hiI v'.t), .int .u64 (loI v'.t), .slice v'.CA v'.cs.length v'.cc, .int .u64 v'.n, .float .f64 v'.sm, .float .f64 v'.mn, .float .f64 v'.mx] 49) := ⟨_, rfl⟩
  have k3 : Blk w3 w2.heap.size [.int .i64 v'.d.kind, .string v'.d.name, .string v'.d.help, .slice v'.d.A v'.d.l.length v'.d.c, .int .i64 (hiI v'.t), .int .u64 (loI v'.t), .slice v'.CA v'.cs.length v'.cc, .int .u64 v'.n, .float .f64 v'.sm, .float .f64 v'.mn, .float .f64 v'.mx] := by rw [hw3]; exact hnew
  have hb3 : Below w2.heap.size w2 w3 := by rw [hw3]; exact (Below.refl _ _).alloc (Nat.le_refl _) _
  rw [← hw3]
  clear hw3 hnew
  have hbw3 := hbw2.trans (hb3.mono hbw2.size)
  have y0 := (k3.2 0 _ rfl).1
  have y6 := (k3.2 6 _ rfl).1
  have x0 := ((k2.later hb3).2 0 _ rfl).1
  have hvo' := hvo.out
  have hva' := (hva.out.below hb3).mono hb3.size
  rcases hcase.out with ⟨rfl, rfl, rfl⟩ | ⟨v, rfl, hk⟩
  · have e6 : ee = 6 := hee.out
    clear hee hvo hvo' hcase
    subst e6
    go_wp2
    go_ret2
    exact ⟨rfl, hbw3⟩
  · have e0 : ee = 0 := hee.out
    obtain ⟨hkk, hcs⟩ := hvo' v rfl
    clear hee hvo hvo' hcase
    subst e0
    rcases hk with ⟨hk, rfl, rfl⟩ | ⟨hk, hr1, hr2⟩
    · have gk : (v'.d.kind != 2) = true := by rw [hkk]; simpa using hk
      replace hkk := Lib.hid hkk
      replace hk := Lib.hid hk
      replace hcs := Lib.hid hcs
      go_wp2
      go_ret2
      exact ⟨rfl, hbw3⟩
    · have gk : (v'.d.kind != 2) = false := by rw [hkk, hk]; decide
      have cq := Rk.rquantile_any w3 w3.heap.size p v'.cs v'.CA v'.cc num den hva'.cs (Nat.le_refl _) hd
      rw [hcs, ← hr1, ← hr2, ← hcs] at cq
      replace hkk := Lib.hid hkk
      replace hk := Lib.hid hk
      replace hcs := Lib.hid hcs
      replace hr1 := Lib.hid hr1
      replace hr2 := Lib.hid hr2
      go_wp2_with fail
      refine cq.mono ?_
      rintro e w4 ⟨rfl, hb4⟩
      go_wp2
      go_ret2
      exact ⟨rfl, hbw3.trans (hb4.mono hbw3.size)⟩
theorem squant_any (s : Ss) (nm : ByteArray) (A0 : Option Addr) (c0 : Nat) (l : List Lab) (num den : Int) (w : World) (h : SAt s w w.heap.size) (hq : QAt nm A0 c0 l w w.heap.size)
    (hb : ∀ v ∈ s.vs, v.d.l.length ≤ 4398046511104 ∧ v.cs.length ≤ 8796093022208) (hd : den ≤ 9223372036854775807) :
    Calls Tryz.prog 27 #[s.v, .string nm, .slice A0 l.length c0, .int .i64 num, .int .i64 den] w fun e w' => e = .returned (.tuple #[.int .i64 (quaV s nm l num den).1, .int .i64 (quaV s nm l num den).2]) ∧ Below w.heap.size w w' :=
  squant_walk s nm A0 c0 l.length num den w (findV s.vs nm l) h hd fun W k => (find_any s nm A0 c0 l W ((h.below k).mono k.size) ((hq.below k).mono k.size) hb).mono fun _ _ hp => hp.q
theorem rsquant_any (s : Ss) (nm : ByteArray) (A0 : Option Addr) (c0 : Nat) (l : List Lab) (num den : Int) (w : World) (h : SAt s w w.heap.size) (hq : QAt nm A0 c0 l w w.heap.size) (hd : den ≤ 9223372036854775807) :
    Calls Tryz.prog 28 #[s.v, .string nm, .slice A0 l.length c0, .int .i64 num, .int .i64 den] w fun e w' => e = .returned (.tuple #[.int .i64 (quaV s nm l num den).1, .int .i64 (quaV s nm l num den).2]) ∧ Below w.heap.size w w' :=
  rsquant_walk s nm A0 c0 l.length num den w (findV s.vs nm l) h hd fun W k => (rfind_any s nm A0 c0 l W ((h.below k).mono k.size) ((hq.below k).mono k.size)).mono fun _ _ hp => hp.q
end Go.Proofs.YtpiegngjpnpohaaGreat.Sn
