/- Lemmas for the laws of this seat, laid together of SnL, SnU, SnV, SnK, SnZ. -/
import Derived.Test.YtpiegngjpnpohaaGreatL18
import Derived.Test.YtpiegngjpnpohaaGreatL19
import Derived.Test.YtpiegngjpnpohaaGreatL20
import Derived.Test.YtpiegngjpnpohaaGreatL24

namespace Go.Proofs.YtpiegngjpnpohaaGreat.Sn
open Go.RowKit Go.Proofs.YtpiegngjpnpohaaGreat.La Go.Proofs.YtpiegngjpnpohaaGreat.Sl Go.Proofs.YtpiegngjpnpohaaGreat.Ck Go.Proofs.YtpiegngjpnpohaaGreat.Rc Go.Proofs.YtpiegngjpnpohaaGreat.Rk Go.Proofs.YtpiegngjpnpohaaGreat.Wi Go.Proofs.YtpiegngjpnpohaaGreat.Fb Go.Proofs.YtpiegngjpnpohaaGreat.Mg Go.Proofs.YtpiegngjpnpohaaGreat.St
set_option linter.unusedVariables false
theorem cmpD_zero (a b : DD) : cmpD a b = 0 ↔ a.name = b.name ∧ a.l = b.l := by
  have h := (cB_ord.lex labs_ord).eq (a.name, a.l) (b.name, b.l)
  rw [← cmpD_ord a b] at h
  rw [h]
  simp
def isF (nm : ByteArray) (l : List Lab) (v : Vv) : Bool := decide (v.d.name = nm) && decide (v.d.l = l)
def findV (vs : List Vv) (nm : ByteArray) (l : List Lab) : Option Vv := vs.find? (isF nm l)
theorem isF_cmp (nm : ByteArray) (A : Option Addr) (c : Nat) (l : List Lab) (v : Vv) : decide (cmpD v.d ⟨0, nm, ⟨#[]⟩, A, c, l⟩ = 0) = isF nm l v := by
  unfold isF
  rw [Bool.eq_iff_iff]
  simp [cmpD_zero]
structure QAt (nm : ByteArray) (A : Option Addr) (c : Nat) (l : List Lab) (w : World) (B : Nat) : Prop where
  rd : Rd w B 2 A (labs l) l.length
  cap : l.length ≤ c
  len : c ≤ 9223372036854775807
  len2 : l.length ≤ 140737488355328
  name : nm.size ≤ 9223372036854775807
  texts : ∀ x ∈ l, x.1.size ≤ 9223372036854775807 ∧ x.2.size ≤ 9223372036854775807
theorem QAt.d {nm : ByteArray} {A : Option Addr} {c : Nat} {l : List Lab} {w : World} {B : Nat} (h : QAt nm A c l w B) : DAt ⟨0, nm, ⟨#[]⟩, A, c, l⟩ w B :=
  ⟨h.rd, h.cap, h.len, h.len2, h.name, Nat.zero_le _, h.texts, ⟨by show (-9223372036854775808 : Int) ≤ 0; decide, by show (0 : Int) ≤ 9223372036854775807; decide⟩⟩
theorem QAt.below {nm : ByteArray} {A : Option Addr} {c : Nat} {l : List Lab} {w w' : World} {B : Nat} (h : QAt nm A c l w B) (k : Below B w w') : QAt nm A c l w' B := ⟨h.rd.below k, h.cap, h.len, h.len2, h.name, h.texts⟩
theorem QAt.mono {nm : ByteArray} {A : Option Addr} {c : Nat} {l : List Lab} {w : World} {B B' : Nat} (h : QAt nm A c l w B) (k : B ≤ B') : QAt nm A c l w B' := ⟨h.rd.mono k, h.cap, h.len, h.len2, h.name, h.texts⟩
set_option maxRecDepth 100000 in
set_option maxHeartbeats 1000000 in
theorem find1_any (v : Vv) (q : DD) (g : Nat) (w : World) (hv : VAt v w w.heap.size) (hq : DAt q w w.heap.size)
    (q0 : w.cell? ⟨g, 0, none⟩ = some (.int .i64 q.kind)) (q1 : w.cell? ⟨g, 1, none⟩ = some (.string q.name)) (q2 : w.cell? ⟨g, 2, none⟩ = some (.string q.help)) (q3 : w.cell? ⟨g, 3, none⟩ = some (.slice q.A q.l.length q.c)) :
    Calls Tryz.prog 66 #[v.v, .pointer (some ⟨g, 0, none⟩)] w fun e w' => e = .returned (.bool (decide (cmpD v.d q = 0))) ∧ Below w.heap.size w w' := by
  have cc := fun W (k : Below w.heap.size w W) => hv.d.cmp hq (Nat.le_refl _) k
  have hnew := fun (w1 : World) (e : w1 = _) => V11.new w 49 v (w1 := w1) e
  have hbq := beqI (cmpD v.d q) 0
  unfold Vv.row at hnew
  unfold Vv.v
  have hbg : g < w.heap.size := by
    rcases Nat.lt_or_ge g w.heap.size with x | x
    · exact x
    · exfalso
      unfold World.cell? at q0
      simp [Array.getElem?_eq_none x] at q0
  obtain ⟨C, hC⟩ : ∃ C, C = cmpD v.d q := ⟨_, rfl⟩
  rw [← hC] at cc hbq ⊢
  unfold DD.v at cc
  obtain ⟨ln, hln⟩ : ∃ ln, ln = v.d.l.length := ⟨_, rfl⟩
  obtain ⟨cn, hcn⟩ : ∃ cn, cn = v.cs.length := ⟨_, rfl⟩
  obtain ⟨lq, hlq⟩ : ∃ ln, ln = q.l.length := ⟨_, rfl⟩
  rw [← hln, ← hlq] at cc
  rw [← hlq] at q3
  rw [← hln, ← hcn] at hnew ⊢
  generalize decide (C = 0) = r at *
  replace cc := Lib.hid cc
  replace hnew := Lib.hid hnew
  replace hln := Lib.hid hln
  replace hcn := Lib.hid hcn
  clear hlq hv hq hC
  go_enter Tryz.func66, Tryz.ntmps66
  go_upto_region 1 with fail
  obtain ⟨w1, hw1⟩ : ∃ w1, w1 = w.alloc (.cells #[.int .i64 v.d.kind, .string v.d.name, .string v.d.help, .slice v.d.A ln v.d.c, .int .i64 (hiI v.t), .int .u64 (loI v.t), .slice v.CA cn v.cc, .int .u64 v.n, .float .f64 v.sm, .float .f64 v.mn, .float .f64 v.mx] 49) := ⟨_, rfl⟩
  rw [← hw1]
  obtain ⟨hb1, hlt1, hv1⟩ := hnew.out w1 hw1
  replace q0 := kc hb1 hbg q0
  replace q1 := kc hb1 hbg q1
  replace q2 := kc hb1 hbg q2
  replace q3 := kc hb1 hbg q3
  clear hw1 hnew
  obtain ⟨z0, z1, z2, z3, z4, z5, z6, z7, z8, z9, z10⟩ := hv1
  rw [← hln.out] at z3
  clear z4 z5 z6 z7 z8 z9 z10
  go_wp2_with fail
  refine (cc.out _ hb1).mono ?_
  rintro e w2 ⟨rfl, hb2⟩
  go_wp2
  go_ret
  exact ⟨rfl, hb1.trans (hb2.mono hb1.size)⟩
theorem enter_find (a : Array Value) (w : World) : (callFunc 66 a).run Tryz.prog w = .ok (.enter 66 a) w :=
  call_enter Tryz.func66 (by kernel_rfl) (by kernel_rfl) a w
theorem own_nil (w : World) (B : Nat) (e : TypeId) (s : Nat) : w.ownsRow B e s (.slice none 0 0) 0 [] := ⟨by simp, .inl ⟨rfl, rfl⟩⟩
theorem zeroV_own (w : World) (B : Nat) : OwnV B w zeroV := ⟨⟨0, own_nil w B _ _⟩, 0, own_nil w B _ _⟩
theorem zeroV_plain : PlainV zeroV := ⟨by decide, by decide, by decide, by decide, by decide, (by intro x hx; cases hx), by decide, (by intro x hx; cases hx), by decide, by decide, (by unfold In zeroV; decide), by decide, (by unfold okF zeroV; decide), (by unfold okF zeroV; decide), (by unfold okF zeroV; decide)⟩
def FindPost (w : World) (o : Option Vv) (e : Ending) (w' : World) : Prop :=
  Below w.heap.size w w' ∧ ∃ v' : Vv, e = .returned (.tuple #[v'.v, .int .i64 (if o = none then 6 else 0)]) ∧ VAt v' w' w'.heap.size ∧ OwnV w.heap.size w' v' ∧ v'.c = (match o with | none => zeroV.c | some v => v.c)
theorem find_idx (vs : List Vv) (p : Vv → Bool) : (idxP p vs = -1 ∧ vs.find? p = none) ∨ ∃ (i : Nat) (h : i < vs.length), idxP p vs = i ∧ vs.find? p = some vs[i] := by
  unfold idxP
  cases h : vs.findIdx? p with
  | none =>
    refine .inl ⟨rfl, ?_⟩
    rw [List.findIdx?_eq_none_iff] at h
    rw [List.find?_eq_none]
    intro x hx; simp [h x hx]
  | some i =>
    rw [List.findIdx?_eq_some_iff_getElem] at h
    obtain ⟨hi, h1, h2⟩ := h
    refine .inr ⟨i, hi, rfl, ?_⟩
    rw [List.find?_eq_some_iff_getElem]
    exact ⟨h1, i, hi, rfl, fun j hj => by simpa using h2 j hj⟩
set_option maxRecDepth 100000 in
set_option maxHeartbeats 2000000 in
theorem find_any (s : Ss) (nm : ByteArray) (A0 : Option Addr) (c0 : Nat) (l : List Lab) (w : World) (h : SAt s w w.heap.size) (hq : QAt nm A0 c0 l w w.heap.size)
    (hb : ∀ v ∈ s.vs, v.d.l.length ≤ 4398046511104 ∧ v.cs.length ≤ 8796093022208) :
    Calls Tryz.prog 24 #[s.v, .string nm, .slice A0 l.length c0] w (FindPost w (findV s.vs nm l)) := by
  have hvs := h.vs
  have hlen := h.len2
  obtain ⟨p, A, c, vs, r⟩ := s
  unfold Ss.v
  dsimp only at *
  have hidx := find_idx vs (isF nm l)
  have cix := fun (W : World) (g : Nat) (k : Below w.heap.size w W) (hg : g < W.heap.size) (q0 : W.cell? ⟨g, 0, none⟩ = some (.int .i64 0)) (q1 : W.cell? ⟨g, 1, none⟩ = some (.string nm)) (q2 : W.cell? ⟨g, 2, none⟩ = some (.string ⟨#[]⟩)) (q3 : W.cell? ⟨g, 3, none⟩ = some (.slice A0 l.length c0)) =>
    indexV_any 66 enter_find (.pointer (some ⟨g, 0, none⟩)) (isF nm l) vs A c W ((hvs.below k).mono k.size) hlen (fun v hv W2 k2 => by
      have := find1_any v ⟨0, nm, ⟨#[]⟩, A0, c0, l⟩ g W2 ((((hvs.below k).mono k.size).all v hv).below k2 |>.mono k2.size) ((hq.below k).mono k.size |>.below k2 |>.mono k2.size).d (kc k2 hg q0) (kc k2 hg q1) (kc k2 hg q2) (kc k2 hg q3)
      rw [isF_cmp] at this
      exact this)
  have hfv : findV vs nm l = vs.find? (isF nm l) := rfl
  rw [hfv]
  clear hfv
  obtain ⟨n, hn⟩ : ∃ n, n = vs.length := ⟨_, rfl⟩
  obtain ⟨lq, hlq⟩ : ∃ n, n = l.length := ⟨_, rfl⟩
  obtain ⟨R, hR⟩ : ∃ R, R = vs.find? (isF nm l) := ⟨_, rfl⟩
  obtain ⟨I, hI⟩ : ∃ I, I = idxP (isF nm l) vs := ⟨_, rfl⟩
  rw [← hI, ← hn, ← hlq] at cix
  rw [← hI, ← hR] at hidx
  rw [← hn, ← hlq, ← hR]
  have hlnI : (n : Int) ≤ 140737488355328 := by omega
  have h3 := fun (w1 : World) (e : w1 = _) => Blk.triple (w := w) (w1 := w1) (cs := [.int .i64 p, .slice A n c, .int .u64 r]) (ds := [.int .i64 0, .string ⟨#[]⟩, .string ⟨#[]⟩, .slice none 0 0, .int .i64 0, .int .u64 0, .slice none 0 0, .int .u64 0, .float .f64 0, .float .f64 0, .float .f64 0]) (es := [.int .i64 0, .string nm, .string ⟨#[]⟩, .slice A0 lq c0]) (T := 25) (U := 49) (X := 43) e
  have hsf := fun (a : Addr) (x : Nat) (W : World) => run_store Tryz.prog W a (.float .f64 x) .plain rfl
  replace h3 := Lib.hid h3
  replace hidx := Lib.hid hidx
  replace cix := Lib.hid cix
  replace hvs := Lib.hid hvs
  replace hn := Lib.hid hn
  replace hb := Lib.hid hb
  clear h hq hR hI hlq hlen
  go_enter Tryz.func24, Tryz.ntmps24
  go_upto_region 2 with fail
  obtain ⟨w1, hw1⟩ : ∃ w1, w1 = (((w.alloc (.cells #[.int .i64 p, .slice A n c, .int .u64 r] 25)).alloc (.cells #[.int .i64 0, .string ⟨#[]⟩, .string ⟨#[]⟩, .slice none 0 0, .int .i64 0, .int .u64 0, .slice none 0 0, .int .u64 0, .float .f64 0, .float .f64 0, .float .f64 0] 49)).alloc (.cells #[.int .i64 0, .string nm, .string ⟨#[]⟩, .slice A0 lq c0] 43)) := ⟨_, rfl⟩
  rw [← hw1]
  obtain ⟨k1, k2, k3, hb1⟩ := h3.out w1 hw1
  clear hw1 h3
  have y1 := (k1.2 1 _ rfl).1
  have hcix := cix.out w1 (w.heap.size + 1 + 1) hb1 k3.1 (k3.2 0 _ rfl).1 (k3.2 1 _ rfl).1 (k3.2 2 _ rfl).1 (k3.2 3 _ rfl).1
  clear cix
  go_wp2_with fail
  refine hcix.mono ?_
  rintro e w2 ⟨rfl, hb2⟩
  clear y1 hcix
  replace k1 := k1.later hb2
  replace k2 := k2.later hb2
  have hbw := hb1.trans (hb2.mono hb1.size)
  have r0 := (k2.2 0 _ rfl).1
  have r1 := (k2.2 1 _ rfl).1
  have r2 := (k2.2 2 _ rfl).1
  have r3 := (k2.2 3 _ rfl).1
  have r4 := (k2.2 4 _ rfl).1
  have r5 := (k2.2 5 _ rfl).1
  have r6 := (k2.2 6 _ rfl).1
  have r7 := (k2.2 7 _ rfl).1
  have r8 := (k2.2 8 _ rfl).1
  have r9 := (k2.2 9 _ rfl).1
  have r10 := (k2.2 10 _ rfl).1
  have s0 := (k2.2 0 _ rfl).2
  have s1 := (k2.2 1 _ rfl).2
  have s2 := (k2.2 2 _ rfl).2
  have s3 := (k2.2 3 _ rfl).2
  have s4 := (k2.2 4 _ rfl).2
  have s5 := (k2.2 5 _ rfl).2
  have s6 := (k2.2 6 _ rfl).2
  have s7 := (k2.2 7 _ rfl).2
  have s8 := (k2.2 8 _ rfl).2
  have s9 := (k2.2 9 _ rfl).2
  have s10 := (k2.2 10 _ rfl).2
  rcases hidx.out with ⟨e1, e2⟩ | ⟨i, hi, e1, e2⟩
  · subst e1 e2
    have g1 : (-1 : Int) < 0 := by decide
    clear hidx
    go_wp2
    try simp only [Exit.inBlock, Exit.then]
    refine bodyPost_ret (retVE rfl rfl rfl (k2.st11 rfl _ _ _ _ _ _ _ _ _ _ _)) rfl ?_
    refine ⟨by have := hbw; go_grown, zeroV, ?_, (zeroV_own _ 0).vat zeroV_plain, zeroV_own _ _, rfl⟩
    exact congrArg (fun v => Ending.returned (.tuple #[v, .int .i64 6])) zeroV_v.symm
  · subst e1
    obtain ⟨b, off, hA, hbB, x0, x1, x2, x3, x4, x5, x6, x7, x8, x9, x10⟩ := (hvs.out.below hbw).cells i hi
    obtain ⟨v, hv⟩ : ∃ v, v = vs[i] := ⟨_, rfl⟩
    have va : VAt v w2 w2.heap.size := by rw [hv]; exact ((hvs.out.all _ (List.getElem_mem hi)).below hbw).mono hbw.size
    have hbv := hb.out v (by rw [hv]; exact List.getElem_mem hi)
    have ccv := copyV_any v w2 va hbv.1 hbv.2
    have hlt : i < n := by rw [hn.out]; exact hi
    rw [← hv] at x0 x1 x2 x3 x4 x5 x6 x7 x8 x9 x10
    rw [← hv] at e2
    subst hA e2
    unfold Vv.v at ccv
    obtain ⟨ln, hln⟩ : ∃ ln, ln = v.d.l.length := ⟨_, rfl⟩
    obtain ⟨cn, hcn⟩ : ∃ cn, cn = v.cs.length := ⟨_, rfl⟩
    rw [← hln] at x3 ccv
    rw [← hcn] at x6 ccv
    have g1 : (i : Int) < (n : Int) := by omega
    have g0 : (0 : Int) ≤ (i : Int) := by omega
    have g2 : ¬ (i : Int) < 0 := by omega
    have y1 := (k1.2 1 _ rfl).1
    replace ccv := Lib.hid ccv
    replace hv := Lib.hid hv
    replace hln := Lib.hid hln
    replace hcn := Lib.hid hcn
    replace va := Lib.hid va
    clear hbv
    go_wp2_with fail
    refine ccv.out.mono ?_
    rintro e w3 ⟨v', rfl, hnv, hb3⟩
    have own3 := hnv.own2
    have plain3 := (hnv.at va.out).plain
    have hcc := hnv.c
    replace k2 := k2.later hb3
    have hbw3 := hbw.trans (hb3.mono hbw.size)
    clear r0 r1 r2 r3 r4 r5 r6 r7 r8 r9 r10 s0 s1 s2 s3 s4 s5 s6 s7 s8 s9 s10 x0 x1 x2 x3 x4 x5 x6 x7 x8 x9 x10 y1 ccv
    have r0 := (k2.2 0 _ rfl).1
    have r1 := (k2.2 1 _ rfl).1
    have r2 := (k2.2 2 _ rfl).1
    have r3 := (k2.2 3 _ rfl).1
    have r4 := (k2.2 4 _ rfl).1
    have r5 := (k2.2 5 _ rfl).1
    have r6 := (k2.2 6 _ rfl).1
    have r7 := (k2.2 7 _ rfl).1
    have r8 := (k2.2 8 _ rfl).1
    have r9 := (k2.2 9 _ rfl).1
    have r10 := (k2.2 10 _ rfl).1
    have s0 := (k2.2 0 _ rfl).2
    have s1 := (k2.2 1 _ rfl).2
    have s2 := (k2.2 2 _ rfl).2
    have s3 := (k2.2 3 _ rfl).2
    have s4 := (k2.2 4 _ rfl).2
    have s5 := (k2.2 5 _ rfl).2
    have s6 := (k2.2 6 _ rfl).2
    have s7 := (k2.2 7 _ rfl).2
    have s8 := (k2.2 8 _ rfl).2
    have s9 := (k2.2 9 _ rfl).2
    have s10 := (k2.2 10 _ rfl).2
    have hsz : w.heap.size + 1 < w2.heap.size := by have := hb1.size; have := hb2.size; have := k3.1; omega
    replace hnv := Lib.hid hnv
    replace hcc := Lib.hid hcc
    replace plain3 := Lib.hid plain3
    clear hidx
    go_wp2
    try simp only [Exit.inBlock, Exit.then]
    refine bodyPost_ret (retVE rfl rfl rfl (k2.st11 rfl _ _ _ _ _ _ _ _ _ _ _)) rfl ?_
    refine ⟨by have := hbw3; go_grown, v', by first | rfl | simp, ?_, ?_, hcc.out⟩
    · exact (OwnV.st11 own3 hsz _ _ _ _ _ _ _ _ _ _ _).vat plain3.out
    · exact (OwnV.st11 own3 hsz _ _ _ _ _ _ _ _ _ _ _).base (by omega)
end Go.Proofs.YtpiegngjpnpohaaGreat.Sn

namespace Go.Proofs.YtpiegngjpnpohaaGreat.Sn
open Go.RowKit Go.Proofs.YtpiegngjpnpohaaGreat.La Go.Proofs.YtpiegngjpnpohaaGreat.Sl Go.Proofs.YtpiegngjpnpohaaGreat.Ck Go.Proofs.YtpiegngjpnpohaaGreat.Rc Go.Proofs.YtpiegngjpnpohaaGreat.Rk Go.Proofs.YtpiegngjpnpohaaGreat.Wi Go.Proofs.YtpiegngjpnpohaaGreat.Fb Go.Proofs.YtpiegngjpnpohaaGreat.Mg Go.Proofs.YtpiegngjpnpohaaGreat.St
set_option linter.unusedVariables false
def RFindP (w : World) (o : Option Vv) (e : Ending) (w' : World) : Prop :=
  Below w.heap.size w w' ∧ ∃ v' : Vv, e = .returned (.tuple #[v'.v, .int .i64 (if o = none then 6 else 0)]) ∧ VAt v' w' w'.heap.size ∧ v' = (match o with | none => zeroV | some v => v)
theorem VAt.st11 {v : Vv} {w : World} (h : VAt v w w.heap.size) : PlainV v := h.plain
end Go.Proofs.YtpiegngjpnpohaaGreat.Sn

namespace Go.Proofs.YtpiegngjpnpohaaGreat.Sn
open Go.RowKit Go.Proofs.YtpiegngjpnpohaaGreat.La Go.Proofs.YtpiegngjpnpohaaGreat.Sl Go.Proofs.YtpiegngjpnpohaaGreat.Ck Go.Proofs.YtpiegngjpnpohaaGreat.Rc Go.Proofs.YtpiegngjpnpohaaGreat.Rk Go.Proofs.YtpiegngjpnpohaaGreat.Wi Go.Proofs.YtpiegngjpnpohaaGreat.Fb Go.Proofs.YtpiegngjpnpohaaGreat.Mg Go.Proofs.YtpiegngjpnpohaaGreat.St
set_option linter.unusedVariables false
def FindQ (w : World) (o : Option Vv) (e : Ending) (w' : World) : Prop :=
  Below w.heap.size w w' ∧ ∃ v' : Vv, e = .returned (.tuple #[v'.v, .int .i64 (if o = none then 6 else 0)]) ∧ VAt v' w' w'.heap.size ∧ (∀ v, o = some v → v'.d.kind = v.d.kind ∧ v'.cs = v.cs)
theorem FindPost.q {w w' : World} {o : Option Vv} {e : Ending} (h : FindPost w o e w') : FindQ w o e w' := by
  obtain ⟨hb, v', he, hv, _, hc⟩ := h
  refine ⟨hb, v', he, hv, fun v ho => ?_⟩
  subst ho
  have hc : v'.c = v.c := hc
  exact ⟨congrArg Cv.kind hc, congrArg Cv.cs hc⟩
theorem RFindP.q {w w' : World} {o : Option Vv} {e : Ending} (h : RFindP w o e w') : FindQ w o e w' := by
  obtain ⟨hb, v', he, hv, hc⟩ := h
  refine ⟨hb, v', he, hv, fun v ho => ?_⟩
  subst ho
  have hc : v' = v := hc
  subst hc
  exact ⟨rfl, rfl⟩
end Go.Proofs.YtpiegngjpnpohaaGreat.Sn

namespace Go.Proofs.YtpiegngjpnpohaaGreat.Sn
open Go.RowKit Go.Proofs.YtpiegngjpnpohaaGreat.La Go.Proofs.YtpiegngjpnpohaaGreat.Sl Go.Proofs.YtpiegngjpnpohaaGreat.Ck Go.Proofs.YtpiegngjpnpohaaGreat.Rc Go.Proofs.YtpiegngjpnpohaaGreat.Rk Go.Proofs.YtpiegngjpnpohaaGreat.Wi Go.Proofs.YtpiegngjpnpohaaGreat.Fb Go.Proofs.YtpiegngjpnpohaaGreat.Mg Go.Proofs.YtpiegngjpnpohaaGreat.St
set_option linter.unusedVariables false
theorem sameL_step {xs ys : List Vv} {i : Nat} (hx : i < xs.length) (hy : i < ys.length) (h : Hid (∀ j, j < i → ∀ x y, xs[j]? = some x → ys[j]? = some y → sameV x y = true)) (hs : sameV xs[i] ys[i] = true) :
    Hid (∀ j, j < i + 1 → ∀ x y, xs[j]? = some x → ys[j]? = some y → sameV x y = true) := Lib.hid fun j hj x y h1 h2 => by
  by_cases e : j = i
  · subst e
    rw [List.getElem?_eq_getElem hx] at h1
    rw [List.getElem?_eq_getElem hy] at h2
    cases h1; cases h2; exact hs
  · exact h.out j (by omega) x y h1 h2
set_option maxRecDepth 100000 in
set_option maxHeartbeats 2000000 in
theorem equalFuncV_any (xs ys : List Vv) (A B : Option Addr) (c k : Nat) (w : World) (ha : VsAt xs A w w.heap.size) (hb : VsAt ys B w w.heap.size) (hla : xs.length ≤ 140737488355328) :
    Calls Tryz.prog 72 #[.slice A xs.length c, .slice B ys.length k, .func (.func 73) #[] #[]] w fun e w' => e = .returned (.bool (sameL xs ys)) ∧ Below w.heap.size w w' := by
  have hE := enter_sameValue
  obtain ⟨n, hn⟩ : ∃ n, n = xs.length := ⟨_, rfl⟩
  obtain ⟨m, hm⟩ : ∃ m, m = ys.length := ⟨_, rfl⟩
  obtain ⟨R, hR⟩ : ∃ R, R = sameL xs ys := ⟨_, rfl⟩
  rw [← hn] at hla
  have hlaI : (n : Int) ≤ 140737488355328 := by omega
  rw [← hn, ← hm, ← hR]
  clear hla
  by_cases hnm : n = m
  · obtain rfl := hnm
    have hiff : R = true ↔ ∀ (i : Nat) (x y : Vv), xs[i]? = some x → ys[i]? = some y → sameV x y = true := by rw [hR]; exact sameL_iff (by rw [← hn, ← hm])
    replace hn := Lib.hid hn
    replace hm := Lib.hid hm
    replace hiff := Lib.hid hiff
    replace ha := Lib.hid ha
    replace hb := Lib.hid hb
    clear hR
    go_enter Tryz.func72, Tryz.ntmps72
    go_wp2
    go_loopw [17] (fun v wr => ∃ i : Nat, v = .int .i64 (i : Int) ∧ i ≤ n ∧ Hid (∀ j, j < i → ∀ x y, xs[j]? = some x → ys[j]? = some y → sameV x y = true) ∧ Below w.heap.size w wr) (fun v _ => n + 1 - natOf' v)
    case atStart => exact ⟨0, rfl, Nat.zero_le _, Lib.hid (fun j hj => absurd hj (by omega)), Below.refl _ _⟩
    case round =>
      obtain ⟨i, rfl, hi, hpre, hw⟩ := hrel
      by_cases hlt : i < n
      · have hil : i < xs.length := by rw [← hn.out]; exact hlt
        have him : i < ys.length := by rw [← hm.out]; exact hlt
        obtain ⟨b, off, hA, hbB, x0, x1, x2, x3, x4, x5, x6, x7, x8, x9, x10⟩ := (ha.out.below hw).cells i hil
        obtain ⟨b2, off2, hB, hbB2, y0, y1, y2, y3, y4, y5, y6, y7, y8, y9, y10⟩ := (hb.out.below hw).cells i him
        obtain ⟨x, hx⟩ : ∃ v, v = xs[i] := ⟨_, rfl⟩
        obtain ⟨y, hy⟩ : ∃ v, v = ys[i] := ⟨_, rfl⟩
        have vx : VAt x wr wr.heap.size := by rw [hx]; exact ((ha.out.all _ (List.getElem_mem hil)).below hw).mono hw.size
        have vy : VAt y wr wr.heap.size := by rw [hy]; exact ((hb.out.all _ (List.getElem_mem him)).below hw).mono hw.size
        have cx := fun (W : World) (k : Below wr.heap.size wr W) => sameV_any x y W ((vx.below k).mono k.size) ((vy.below k).mono k.size)
        rw [← hx] at x0 x1 x2 x3 x4 x5 x6 x7 x8 x9 x10
        rw [← hy] at y0 y1 y2 y3 y4 y5 y6 y7 y8 y9 y10
        have hstep := sameL_step hil him hpre
        rw [← hx, ← hy] at hstep
        have hbad : sameV x y = false → R = false := fun e => by
          cases hRR : R
          · rfl
          · have := hiff.out.1 hRR i x y (by rw [hx]; exact List.getElem?_eq_getElem hil) (by rw [hy]; exact List.getElem?_eq_getElem him)
            rw [e] at this; cases this
        subst hA hB
        have g1 : (i : Int) < (n : Int) := by omega
        have g0 : (0 : Int) ≤ (i : Int) := by omega
        have hbw : b < wr.heap.size := by have := hw.size; omega
        have hbw2 : b2 < wr.heap.size := by have := hw.size; omega
        unfold Vv.v at cx
        clear hx hy vx vy hil him
        generalize sameV x y = r at *
        obtain ⟨ln, hln⟩ : ∃ ln, ln = x.d.l.length := ⟨_, rfl⟩
        obtain ⟨cn, hcn⟩ : ∃ cn, cn = x.cs.length := ⟨_, rfl⟩
        obtain ⟨lm, hlm⟩ : ∃ lm, lm = y.d.l.length := ⟨_, rfl⟩
        obtain ⟨cm, hcm⟩ : ∃ cm, cm = y.cs.length := ⟨_, rfl⟩
        rw [← hln] at x3
        rw [← hcn] at x6
        rw [← hlm] at y3
        rw [← hcm] at y6
        rw [← hln, ← hcn, ← hlm, ← hcm] at cx
        clear hln hcn hlm hcm
        have h2 := fun (w1 : World) (e : w1 = _) => Blk.pair (w := wr) (cs := [.int .i64 x.d.kind, .string x.d.name, .string x.d.help, .slice x.d.A ln x.d.c, .int .i64 (hiI x.t), .int .u64 (loI x.t), .slice x.CA cn x.cc, .int .u64 x.n, .float .f64 x.sm, .float .f64 x.mn, .float .f64 x.mx]) (ds := [.int .i64 y.d.kind, .string y.d.name, .string y.d.help, .slice y.d.A lm y.d.c, .int .i64 (hiI y.t), .int .u64 (loI y.t), .slice y.CA cm y.cc, .int .u64 y.n, .float .f64 y.sm, .float .f64 y.mn, .float .f64 y.mx]) (T := 49) (U := 49) (w1 := w1) e
        have hsf := fun (a : Addr) (x : Nat) (W : World) => run_store Tryz.prog W a (.float .f64 x) .plain rfl
        replace cx := Lib.hid cx
        replace hstep := Lib.hid hstep
        replace hbad := Lib.hid hbad
        replace h2 := Lib.hid h2
        go_upto_region 7 with fail
        obtain ⟨w1, hw1⟩ : ∃ w1, w1 = (wr.alloc (.cells #[.int .i64 x.d.kind, .string x.d.name, .string x.d.help, .slice x.d.A ln x.d.c, .int .i64 (hiI x.t), .int .u64 (loI x.t), .slice x.CA cn x.cc, .int .u64 x.n, .float .f64 x.sm, .float .f64 x.mn, .float .f64 x.mx] 49)).alloc (.cells #[.int .i64 y.d.kind, .string y.d.name, .string y.d.help, .slice y.d.A lm y.d.c, .int .i64 (hiI y.t), .int .u64 (loI y.t), .slice y.CA cm y.cc, .int .u64 y.n, .float .f64 y.sm, .float .f64 y.mn, .float .f64 y.mx] 49) := ⟨_, rfl⟩
        rw [← hw1]
        obtain ⟨k1, k2, hb1⟩ := h2.out w1 (by rw [hw1])
        clear hw1 h2 x0 x1 x2 x3 x4 x5 x6 x7 x8 x9 x10 y0 y1 y2 y3 y4 y5 y6 y7 y8 y9 y10 hsf
        have x0 := (k1.2 0 _ rfl).1
        have x1 := (k1.2 1 _ rfl).1
        have x2 := (k1.2 2 _ rfl).1
        have x3 := (k1.2 3 _ rfl).1
        have x4 := (k1.2 4 _ rfl).1
        have x5 := (k1.2 5 _ rfl).1
        have x6 := (k1.2 6 _ rfl).1
        have x7 := (k1.2 7 _ rfl).1
        have x8 := (k1.2 8 _ rfl).1
        have x9 := (k1.2 9 _ rfl).1
        have x10 := (k1.2 10 _ rfl).1
        have y0 := (k2.2 0 _ rfl).1
        have y1 := (k2.2 1 _ rfl).1
        have y2 := (k2.2 2 _ rfl).1
        have y3 := (k2.2 3 _ rfl).1
        have y4 := (k2.2 4 _ rfl).1
        have y5 := (k2.2 5 _ rfl).1
        have y6 := (k2.2 6 _ rfl).1
        have y7 := (k2.2 7 _ rfl).1
        have y8 := (k2.2 8 _ rfl).1
        have y9 := (k2.2 9 _ rfl).1
        have y10 := (k2.2 10 _ rfl).1
        go_wp2_with fail
        refine (cx.out _ hb1).mono ?_
        rintro e w2 ⟨rfl, hb2⟩
        clear x0 x1 x2 x3 x4 x5 x6 x7 x8 x9 x10 y0 y1 y2 y3 y4 y5 y6 y7 y8 y9 y10 k1 k2
        have hbw2 := hw.trans ((hb1.trans (hb2.mono hb1.size)).mono hw.size)
        cases r
        · obtain rfl := hbad.out rfl
          go_wp2
          go_ret
          exact ⟨rfl, hbw2⟩
        · have hst := hstep.out rfl
          go_wp2
          exact ⟨⟨i + 1, by simp, hlt, hst, hbw2⟩, by simp [natOf']; omega⟩
      · obtain rfl : i = n := by omega
        have hr : R = true := hiff.out.2 fun j x y hx hy => hpre.out j (by have := (List.getElem?_eq_some_iff.1 hx).1; rw [hn.out]; exact this) x y hx hy
        subst hr
        go_wp2
        go_ret
        exact ⟨rfl, hw⟩
  · have hr : R = false := by rw [hR]; exact sameL_len (by rw [← hn, ← hm]; exact hnm)
    subst hr
    have t1 : ((n : Int) != (m : Int)) = true := by simp; omega
    go_enter Tryz.func72, Tryz.ntmps72
    go_wp2
    go_ret
    exact ⟨rfl, Below.refl _ _⟩
theorem SAt.blk2 (a b : Ss) (w : World) {w1 : World} (e : w1 = (w.alloc (.cells #[.int .i64 a.p, .slice a.A a.vs.length a.c, .int .u64 a.r] 25)).alloc (.cells #[.int .i64 b.p, .slice b.A b.vs.length b.c, .int .u64 b.r] 25)) :
    Blk w1 w.heap.size [.int .i64 a.p, .slice a.A a.vs.length a.c, .int .u64 a.r] ∧ Blk w1 (w.heap.size + 1) [.int .i64 b.p, .slice b.A b.vs.length b.c, .int .u64 b.r] ∧ Below w.heap.size w w1 := Blk.pair (by rw [e])
set_option maxRecDepth 100000 in
set_option maxHeartbeats 2000000 in
theorem sameS_any (a b : Ss) (w : World) (ha : SAt a w w.heap.size) (hb : SAt b w w.heap.size) :
    Calls Tryz.prog 29 #[a.v, b.v] w fun e w' => e = .returned (.bool (sameS a b)) ∧ Below w.heap.size w w' := by
  have h2 := fun (w1 : World) => SAt.blk2 a b w (w1 := w1)
  have ce := fun (W : World) (k : Below w.heap.size w W) => equalFuncV_any a.vs b.vs a.A b.A a.c b.c W ((ha.vs.below k).mono k.size) ((hb.vs.below k).mono k.size) ha.len2
  have hs : sameS a b = (decide (a.p = b.p) && decide (a.r = b.r) && sameL a.vs b.vs) := rfl
  have e1 := beqI a.p b.p
  have e2 := beqI a.r b.r
  obtain ⟨R, hR⟩ : ∃ R, R = sameS a b := ⟨_, rfl⟩
  rw [← hR] at hs ⊢
  unfold Ss.v
  obtain ⟨p, A, c, vs, r⟩ := a
  obtain ⟨q, B, k, us, s⟩ := b
  dsimp only at *
  clear ha hb hR
  generalize decide (p = q) = bp at *
  generalize decide (r = s) = br at *
  generalize sameL vs us = bl at *
  generalize vs.length = n at *
  generalize us.length = m at *
  replace h2 := Lib.hid h2
  replace ce := Lib.hid ce
  replace hs := Lib.hid hs
  go_enter Tryz.func29, Tryz.ntmps29
  go_upto_region 1 with fail
  obtain ⟨w1, hw1⟩ : ∃ w1, w1 = (w.alloc (.cells #[.int .i64 p, .slice A n c, .int .u64 r] 25)).alloc (.cells #[.int .i64 q, .slice B m k, .int .u64 s] 25) := ⟨_, rfl⟩
  rw [← hw1]
  obtain ⟨k1, k2, hb1⟩ := h2.out w1 hw1
  clear hw1 h2
  have x0 := (k1.2 0 _ rfl).1
  have x1 := (k1.2 1 _ rfl).1
  have x2 := (k1.2 2 _ rfl).1
  have y0 := (k2.2 0 _ rfl).1
  have y1 := (k2.2 1 _ rfl).1
  have y2 := (k2.2 2 _ rfl).1
  cases bp
  · obtain rfl : R = false := by rw [hs.out]; rfl
    go_wp2
    go_ret
    exact ⟨rfl, hb1⟩
  cases br
  · obtain rfl : R = false := by rw [hs.out]; rfl
    go_wp2
    go_ret
    exact ⟨rfl, hb1⟩
  obtain rfl : R = bl := by rw [hs.out]; rfl
  go_wp2_with fail
  refine (ce.out _ hb1).mono ?_
  rintro e w2 ⟨rfl, hb2⟩
  go_wp2
  go_ret
  exact ⟨rfl, hb1.trans (hb2.mono hb1.size)⟩
set_option maxRecDepth 100000 in
set_option maxHeartbeats 2000000 in
theorem rsameS_any (a b : Ss) (w : World) (ha : SAt a w w.heap.size) (hb : SAt b w w.heap.size) :
    Calls Tryz.prog 17 #[a.v, b.v] w fun e w' => e = .returned (.bool (sameS a b)) ∧ Below w.heap.size w w' := by
  have h2 := fun (w1 : World) => SAt.blk2 a b w (w1 := w1)
  have hs : sameS a b = (decide (a.p = b.p) && decide (a.r = b.r) && sameL a.vs b.vs) := rfl
  have e1 : (a.p != b.p) = !decide (a.p = b.p) := by rw [bne, beqI]
  have e2 : (a.r != b.r) = !decide (a.r = b.r) := by rw [bne, beqI]
  have hav := ha.vs
  have hbv := hb.vs
  have hla := ha.len2
  obtain ⟨R, hR⟩ : ∃ R, R = sameS a b := ⟨_, rfl⟩
  rw [← hR] at hs ⊢
  unfold Ss.v
  obtain ⟨p, A, c, xs, r⟩ := a
  obtain ⟨q, B, k, ys, s⟩ := b
  dsimp only at *
  clear ha hb hR
  obtain ⟨n, hn⟩ : ∃ n, n = xs.length := ⟨_, rfl⟩
  obtain ⟨m, hm⟩ : ∃ m, m = ys.length := ⟨_, rfl⟩
  rw [← hn] at hla h2 ⊢
  rw [← hm] at h2 ⊢
  have hlaI : (n : Int) ≤ 140737488355328 := by omega
  have hne : n ≠ m → sameL xs ys = false := fun e => sameL_len (by rw [← hn, ← hm]; exact e)
  have hiff : n = m → (sameL xs ys = true ↔ ∀ (i : Nat) (x y : Vv), xs[i]? = some x → ys[i]? = some y → sameV x y = true) := fun e => sameL_iff (by rw [← hn, ← hm]; exact e)
  clear hla
  generalize decide (p = q) = bp at *
  generalize decide (r = s) = br at *
  generalize sameL xs ys = bl at *
  replace h2 := Lib.hid h2
  replace hs := Lib.hid hs
  replace hn := Lib.hid hn
  replace hm := Lib.hid hm
  replace hav := Lib.hid hav
  replace hbv := Lib.hid hbv
  replace hne := Lib.hid hne
  replace hiff := Lib.hid hiff
  go_enter Tryz.func17, Tryz.ntmps17
  go_upto_region 1 with fail
  obtain ⟨w1, hw1⟩ : ∃ w1, w1 = (w.alloc (.cells #[.int .i64 p, .slice A n c, .int .u64 r] 25)).alloc (.cells #[.int .i64 q, .slice B m k, .int .u64 s] 25) := ⟨_, rfl⟩
  rw [← hw1]
  obtain ⟨k1, k2, hb1⟩ := h2.out w1 hw1
  clear hw1 h2
  have x0 := (k1.2 0 _ rfl).1
  have x1 := (k1.2 1 _ rfl).1
  have x2 := (k1.2 2 _ rfl).1
  have y0 := (k2.2 0 _ rfl).1
  have y1 := (k2.2 1 _ rfl).1
  have y2 := (k2.2 2 _ rfl).1
  cases bp
  · obtain rfl : R = false := by rw [hs.out]; rfl
    go_wp2
    go_ret
    exact ⟨rfl, hb1⟩
  cases br
  · obtain rfl : R = false := by rw [hs.out]; rfl
    go_wp2
    go_ret
    exact ⟨rfl, hb1⟩
  obtain rfl : R = bl := by rw [hs.out]; rfl
  by_cases hnm : n = m
  · obtain rfl := hnm
    have t1 : ((n : Int) != (n : Int)) = false := by simp
    go_wp2
    clear x0 x1 x2 y0 y1 y2
    go_loopw [5] (fun v wr => ∃ i : Nat, v = .int .i64 (i : Int) ∧ i ≤ n ∧ Hid (∀ j, j < i → ∀ x y, xs[j]? = some x → ys[j]? = some y → sameV x y = true) ∧ Below w1.heap.size w1 wr) (fun v _ => n - (intOf v).toNat)
    case atStart => exact ⟨0, rfl, Nat.zero_le _, Lib.hid (fun j hj => absurd hj (by omega)), Below.refl _ _⟩
    case round =>
      obtain ⟨i, rfl, hi, hpre, hbr⟩ := hrel
      have m1 := k1.later hbr
      have m2 := k2.later hbr
      have u1 := (m1.2 1 _ rfl).1
      have v1 := (m2.2 1 _ rfl).1
      have hw : Below w.heap.size w wr := hb1.trans (hbr.mono hb1.size)
      have hl1 := m1.1
      have hl2 := m2.1
      by_cases hlt : i < n
      · have hil : i < xs.length := by rw [← hn.out]; exact hlt
        have him : i < ys.length := by rw [← hm.out]; exact hlt
        obtain ⟨b, off, hA, hbB, x0, x1, x2, x3, x4, x5, x6, x7, x8, x9, x10⟩ := (hav.out.below hw).cells i hil
        obtain ⟨b2, off2, hB, hbB2, y0, y1, y2, y3, y4, y5, y6, y7, y8, y9, y10⟩ := (hbv.out.below hw).cells i him
        obtain ⟨x, hx⟩ : ∃ v, v = xs[i] := ⟨_, rfl⟩
        obtain ⟨y, hy⟩ : ∃ v, v = ys[i] := ⟨_, rfl⟩
        have vx : VAt x wr wr.heap.size := by rw [hx]; exact ((hav.out.all _ (List.getElem_mem hil)).below hw).mono hw.size
        have vy : VAt y wr wr.heap.size := by rw [hy]; exact ((hbv.out.all _ (List.getElem_mem him)).below hw).mono hw.size
        have cx := fun (W : World) (k : Below wr.heap.size wr W) => rsameV_any x y W ((vx.below k).mono k.size) ((vy.below k).mono k.size)
        rw [← hx] at x0 x1 x2 x3 x4 x5 x6 x7 x8 x9 x10
        rw [← hy] at y0 y1 y2 y3 y4 y5 y6 y7 y8 y9 y10
        have hstep := sameL_step hil him hpre
        rw [← hx, ← hy] at hstep
        have hbad : sameV x y = false → R = false := fun e => by
          cases hRR : R
          · rfl
          · have := (hiff.out (by first | rfl | trivial)).1 hRR i x y (by rw [hx]; exact List.getElem?_eq_getElem hil) (by rw [hy]; exact List.getElem?_eq_getElem him)
            rw [e] at this; cases this
        subst hA hB
        have g1 : (i : Int) < (n : Int) := by omega
        have g0 : (0 : Int) ≤ (i : Int) := by omega
        have hbw : b < wr.heap.size := by have := hw.size; omega
        have hbw2 : b2 < wr.heap.size := by have := hw.size; omega
        unfold Vv.v at cx
        clear hx hy vx vy hil him
        generalize sameV x y = rr at *
        obtain ⟨ln, hln⟩ : ∃ ln, ln = x.d.l.length := ⟨_, rfl⟩
        obtain ⟨cn, hcn⟩ : ∃ cn, cn = x.cs.length := ⟨_, rfl⟩
        obtain ⟨lm, hlm⟩ : ∃ lm, lm = y.d.l.length := ⟨_, rfl⟩
        obtain ⟨cm, hcm⟩ : ∃ cm, cm = y.cs.length := ⟨_, rfl⟩
        rw [← hln] at x3
        rw [← hcn] at x6
        rw [← hlm] at y3
        rw [← hcm] at y6
        rw [← hln, ← hcn, ← hlm, ← hcm] at cx
        clear hln hcn hlm hcm
        replace cx := Lib.hid cx
        replace hstep := Lib.hid hstep
        replace hbad := Lib.hid hbad
        go_upto_region 6 with fail
        refine Reg.region_below (by kernel_rfl) (by kernel_rfl) ?_
        intro S _ f hf hs
        replace u1 := Reg.keepc hf hl1 u1
        replace v1 := Reg.keepc hf hl2 v1
        replace x0 := Reg.keepc hf hbw x0
        replace x1 := Reg.keepc hf hbw x1
        replace x2 := Reg.keepc hf hbw x2
        replace x3 := Reg.keepc hf hbw x3
        replace x4 := Reg.keepc hf hbw x4
        replace x5 := Reg.keepc hf hbw x5
        replace x6 := Reg.keepc hf hbw x6
        replace x7 := Reg.keepc hf hbw x7
        replace x8 := Reg.keepc hf hbw x8
        replace x9 := Reg.keepc hf hbw x9
        replace x10 := Reg.keepc hf hbw x10
        replace y0 := Reg.keepc hf hbw2 y0
        replace y1 := Reg.keepc hf hbw2 y1
        replace y2 := Reg.keepc hf hbw2 y2
        replace y3 := Reg.keepc hf hbw2 y3
        replace y4 := Reg.keepc hf hbw2 y4
        replace y5 := Reg.keepc hf hbw2 y5
        replace y6 := Reg.keepc hf hbw2 y6
        replace y7 := Reg.keepc hf hbw2 y7
        replace y8 := Reg.keepc hf hbw2 y8
        replace y9 := Reg.keepc hf hbw2 y9
        replace y10 := Reg.keepc hf hbw2 y10
        repeat (go_big_quiet_step ((go_at_call 26; with_reducible exact Reg.met hs (cx.out _ (hf _)))))
        refine wpQuiet_nil ?_
        intro t
        have hb3 := hf t
        obtain ⟨w3, hw3⟩ : ∃ w3, w3 = f t := ⟨_, rfl⟩
        rw [← hw3] at hb3 ⊢
        clear hw3 hs hf x0 x1 x2 x3 x4 x5 x6 x7 x8 x9 x10 y0 y1 y2 y3 y4 y5 y6 y7 y8 y9 y10 u1 v1
        have hbr3 := hbr.trans (hb3.mono hbr.size)
        cases rr
        · obtain rfl := hbad.out rfl
          go_wp2
          go_ret
          exact ⟨rfl, hw.trans (hb3.mono hw.size)⟩
        · have hst := hstep.out rfl
          go_wp2
          exact ⟨⟨i + 1, by go_num, hlt, hst, hbr3⟩, by simp [intOf]; omega⟩
      · obtain rfl : i = n := by omega
        have hr : R = true := (hiff.out (by first | rfl | trivial)).2 fun j x y hx hy => hpre.out j (by have := (List.getElem?_eq_some_iff.1 hx).1; rw [hn.out]; exact this) x y hx hy
        subst hr
        go_wp2
        go_ret
        exact ⟨rfl, hw⟩
  · have t1 : ((n : Int) != (m : Int)) = true := by simp; omega
    obtain rfl := hne.out hnm
    go_wp2
    go_ret
    exact ⟨rfl, hb1⟩
end Go.Proofs.YtpiegngjpnpohaaGreat.Sn

namespace Go.Proofs.YtpiegngjpnpohaaGreat.Sn
open Go.RowKit Go.Proofs.YtpiegngjpnpohaaGreat.La Go.Proofs.YtpiegngjpnpohaaGreat.Sl Go.Proofs.YtpiegngjpnpohaaGreat.Ck Go.Proofs.YtpiegngjpnpohaaGreat.Rc Go.Proofs.YtpiegngjpnpohaaGreat.Rk Go.Proofs.YtpiegngjpnpohaaGreat.Wi Go.Proofs.YtpiegngjpnpohaaGreat.Fb Go.Proofs.YtpiegngjpnpohaaGreat.Mg Go.Proofs.YtpiegngjpnpohaaGreat.St
set_option linter.unusedVariables false
def FixedOk : Prop := ∀ W : World, Calls Tryz.prog 14 #[] W fun e w' => e = .returned (.bool true) ∧ Below W.heap.size W w'
end Go.Proofs.YtpiegngjpnpohaaGreat.Sn
