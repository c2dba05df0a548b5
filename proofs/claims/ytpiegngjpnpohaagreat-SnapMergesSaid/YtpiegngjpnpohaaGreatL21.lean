/- Lemmas for the laws of this seat, laid together of SnD. -/
import Derived.Test.YtpiegngjpnpohaaGreatL20
import Derived.Maps.OwnSet
import Derived.StringKeys

namespace Go.Proofs.YtpiegngjpnpohaaGreat.Sn
open Go.RowKit Go.Proofs.YtpiegngjpnpohaaGreat.La Go.Proofs.YtpiegngjpnpohaaGreat.Sl Go.Proofs.YtpiegngjpnpohaaGreat.Ck Go.Proofs.YtpiegngjpnpohaaGreat.Rc Go.Proofs.YtpiegngjpnpohaaGreat.Rk Go.Proofs.YtpiegngjpnpohaaGreat.Wi Go.Proofs.YtpiegngjpnpohaaGreat.Fb Go.Proofs.YtpiegngjpnpohaaGreat.Mg Go.Proofs.YtpiegngjpnpohaaGreat.St
open Go.Maps (Keyed)
set_option linter.unusedVariables false
set_option maxRecDepth 100000 in
set_option maxHeartbeats 1000000 in
theorem indexV_any (F : FuncId) (hE : ∀ a w, (callFunc F a).run Tryz.prog w = .ok (.enter F a) w) (cap : Value) (p : Vv → Bool) (vs : List Vv) (A : Option Addr) (c : Nat) (w : World) (h : VsAt vs A w w.heap.size) (hl : vs.length ≤ 140737488355328)
    (hF : ∀ v ∈ vs, ∀ W, Below w.heap.size w W → Calls Tryz.prog F #[v.v, cap] W fun e w' => e = .returned (.bool (p v)) ∧ Below W.heap.size W w') :
    Calls Tryz.prog 65 #[.slice A vs.length c, .func (.func F) #[] #[cap]] w fun e w' => e = .returned (.int .i64 (idxP p vs)) ∧ Below w.heap.size w w' := by
  obtain ⟨n, hn⟩ : ∃ n, n = vs.length := ⟨_, rfl⟩
  obtain ⟨res, hres⟩ : ∃ res, res = idxP p vs := ⟨_, rfl⟩
  have hnI : (n : Int) ≤ 140737488355328 := by omega
  rw [← hn, ← hres]
  replace h := Lib.hid h
  replace hn := Lib.hid hn
  replace hres := Lib.hid hres
  replace hF := Lib.hid hF
  clear hl
  go_enter Tryz.func65, Tryz.ntmps65
  go_wp2
  go_loopw [8] (fun v wr => ∃ i : Nat, v = .int .i64 (i : Int) ∧ i ≤ n ∧ Hid (∀ j, j < i → ∀ x, vs[j]? = some x → p x = false) ∧ Below w.heap.size w wr) (fun v _ => n + 1 - natOf' v)
  case atStart => exact ⟨0, rfl, Nat.zero_le _, Lib.hid (fun j hj => absurd hj (by omega)), Below.refl _ _⟩
  case round =>
    obtain ⟨i, rfl, hi, hpre, hw⟩ := hrel
    by_cases hlt : i < n
    · have hil : i < vs.length := by rw [← hn.out]; exact hlt
      have cx := hF.out vs[i] (List.getElem_mem hil) wr hw
      obtain ⟨b, off, hA, hbB, x0, x1, x2, x3, x4, x5, x6, x7, x8, x9, x10⟩ := (h.out.below hw).cells i hil
      obtain ⟨v, hv⟩ : ∃ v, v = vs[i] := ⟨_, rfl⟩
      rw [← hv] at cx x0 x1 x2 x3 x4 x5 x6 x7 x8 x9 x10
      subst hA
      have g1 : (i : Int) < (n : Int) := by omega
      unfold Vv.v at cx
      replace hv := Lib.hid hv
      obtain ⟨ln, hln⟩ : ∃ ln, ln = v.d.l.length := ⟨_, rfl⟩
      obtain ⟨cn, hcn⟩ : ∃ cn, cn = v.cs.length := ⟨_, rfl⟩
      rw [← hln] at x3 cx
      rw [← hcn] at x6 cx
      clear hln hcn
      cases hp : p v
      · rw [hp] at cx
        have hst : ∀ j, j < i + 1 → ∀ y, vs[j]? = some y → p y = false := fun j hj y hy => by
          by_cases e : j = i
          · subst e
            rw [List.getElem?_eq_getElem hil, ← hv.out] at hy
            cases hy; exact hp
          · exact hpre.out j (by omega) y hy
        replace hst := Lib.hid hst
        clear hp
        go_wp2_with (refine cx.mono ?_; rintro e w' ⟨rfl, hb'⟩)
        exact ⟨⟨i + 1, by simp, hlt, hst, hw.trans (hb'.mono hw.size)⟩, by simp [natOf']; omega⟩
      · rw [hp] at cx
        have hr : res = i := by
          rw [hres.out]
          unfold idxP
          have : vs.findIdx? p = some i := by
            rw [List.findIdx?_eq_some_iff_getElem]
            refine ⟨hil, by rw [← hv.out]; exact hp, fun j hj => ?_⟩
            have := hpre.out j hj _ (List.getElem?_eq_getElem (by omega))
            simp [this]
          rw [this]
        clear hp
        subst hr
        go_wp2_with (refine cx.mono ?_; rintro e w' ⟨rfl, hb'⟩)
        go_ret
        exact ⟨rfl, hw.trans (hb'.mono hw.size)⟩
    · obtain rfl : i = n := by omega
      have hr : res = -1 := by
        rw [hres.out]
        unfold idxP
        have : vs.findIdx? p = none := by
          rw [List.findIdx?_eq_none_iff]
          intro x hx
          obtain ⟨j, hj, rfl⟩ := List.mem_iff_getElem.1 hx
          exact hpre.out j (by rw [hn.out]; exact hj) _ (List.getElem?_eq_getElem hj)
        rw [this]
      subst hr
      go_wp2
      go_ret
      exact ⟨rfl, hw⟩
theorem containsV_any (F : FuncId) (hE : ∀ a w, (callFunc F a).run Tryz.prog w = .ok (.enter F a) w) (cap : Value) (p : Vv → Bool) (vs : List Vv) (A : Option Addr) (c : Nat) (w : World) (h : VsAt vs A w w.heap.size) (hl : vs.length ≤ 140737488355328)
    (hF : ∀ v ∈ vs, ∀ W, Below w.heap.size w W → Calls Tryz.prog F #[v.v, cap] W fun e w' => e = .returned (.bool (p v)) ∧ Below W.heap.size W w') :
    Calls Tryz.prog 107 #[.slice A vs.length c, .func (.func F) #[] #[cap]] w fun e w' => e = .returned (.bool (vs.any p)) ∧ Below w.heap.size w w' := by
  have c1 := indexV_any F hE cap p vs A c w h hl hF
  rw [← idxP_any]
  generalize idxP p vs = r at *
  generalize vs.length = n at *
  clear h hl hF
  go_enter Tryz.func107, Tryz.ntmps107
  go_wp2_with (go_at_call 65; refine c1.mono ?_; rintro e w' ⟨rfl, hb'⟩)
  go_ret
  exact ⟨rfl, hb'⟩
def rdL : List Value → Option (DataW Nat × List MemPlace)
  | [.int .i64 k, .string n, .string h, .slice A l c] => some (.agg [.lit (.int .i64 k), .lit (.string h.data.toList)], [])
  | _ => none
def rdD : Value → Option (DataW Nat × List MemPlace)
  | .agg cs => rdL cs.toList
  | _ => none
def datD (d : DD) : DataW Nat := .agg [.lit (.int .i64 d.kind), .lit (.string d.help.data.toList)]
theorem rdD_mk (d : DD) : rdD d.v = some (datD d, []) := rfl
theorem rdD_inv {v : Value} {z : DataW Nat × List MemPlace} (h : rdD v = some z) : ∃ d : DD, v = .agg #[.int .i64 d.kind, .string d.name, .string d.help, .slice d.A d.l.length d.c] ∧ z.1 = datD d := by
  unfold rdD at h
  split at h
  · rename_i cs
    unfold rdL at h
    split at h
    · rename_i k n hh A l c e
      cases h
      refine ⟨⟨k, n, hh, A, c, List.replicate l (⟨#[]⟩, ⟨#[]⟩)⟩, ?_, rfl⟩
      rw [List.length_replicate]
      congr 1
      exact Array.toList_inj.1 e
    · cases h
  · cases h
theorem datD_inj {a b : DD} (h : datD a = datD b) : a.kind = b.kind ∧ a.help = b.help := by
  unfold datD at h
  simp only [DataW.agg.injEq, List.cons.injEq, DataW.lit.injEq, Lit.int.injEq, Lit.string.injEq, true_and, and_true] at h
  exact ⟨h.1, ByteArray.ext (Array.toList_inj.1 h.2)⟩
def keyS (s : ByteArray) : Lit := .string s.data.toList
theorem keyS_inj {a b : ByteArray} (h : keyS a = keyS b) : a = b := by
  unfold keyS at h
  injection h with h
  exact ByteArray.ext (Array.toList_inj.1 h)
def Nm (D : DataW Nat) (l : List Vv) : Prop := ∀ s, (Maps.has D (keyS s) = true ∧ ∃ v ∈ l, v.d.name = s ∧ ∀ z, D.atKey (keyS s) z = datD v.d) ∨ (Maps.has D (keyS s) = false ∧ ∀ v ∈ l, v.d.name ≠ s)
theorem Nm.nil : Nm (.map []) [] := fun s => .inr ⟨rfl, by simp⟩
theorem isKey (s : ByteArray) : WideAt.IsKeyLit (keyS s) := by
  unfold keyS WideAt.IsKeyLit
  trivial
theorem Nm.put {D : DataW Nat} {l : List Vv} (h : Nm D l) (hm : Maps.IsMap D) (v : Vv) : Nm (D.put (keyS v.d.name) (datD v.d)) (l ++ [v]) := fun s => by
  by_cases e : s = v.d.name
  · subst e
    exact .inl ⟨Maps.has_put_same hm (isKey _) _, v, by simp, rfl, fun z => Maps.atKey_put_same hm (isKey _) _ z⟩
  · have hne : keyS s ≠ keyS v.d.name := fun g => e (keyS_inj g)
    rcases h s with ⟨a, u, hu, e1, e2⟩ | ⟨a, b⟩
    · exact .inl ⟨by rw [Maps.has_put_other hne]; exact a, u, by simp [hu], e1, fun z => by rw [Maps.atKey_put_other hne]; exact e2 z⟩
    · refine .inr ⟨by rw [Maps.has_put_other hne]; exact a, fun u hu => ?_⟩
      rcases List.mem_append.1 hu with hu | hu
      · exact b u hu
      · rw [List.mem_singleton] at hu
        subst hu
        exact fun g => e g.symm
def alD (a b : DD) : Bool := decide (a.kind = b.kind ∧ a.help = b.help)
def Once (l : List Vv) : Prop := ∀ u ∈ l, ∀ v ∈ l, u.d.name = v.d.name → alD u.d v.d = true
def badV (l : List Vv) (v : Vv) : Bool := l.any fun u => decide (u.d.name = v.d.name) && !alD u.d v.d
def unlikeB (a b : List Vv) : Bool := b.any (badV a)
theorem badV_has {D : DataW Nat} {l : List Vv} (h : Nm D l) (ho : Once l) (v : Vv) (z : DataW Nat) :
    (Maps.has D (keyS v.d.name) = true ∧ ∃ u : DD, D.atKey (keyS v.d.name) z = datD u ∧ badV l v = !alD u v.d) ∨ (Maps.has D (keyS v.d.name) = false ∧ badV l v = false) := by
  rcases h v.d.name with ⟨a, u, hu, e1, e2⟩ | ⟨a, b⟩
  · refine .inl ⟨a, u.d, e2 z, ?_⟩
    unfold badV
    rw [Bool.eq_iff_iff, List.any_eq_true]
    constructor
    · rintro ⟨x, hx, h⟩
      simp only [Bool.and_eq_true, decide_eq_true_eq, Bool.not_eq_true'] at h
      have := ho u hu x hx (by rw [e1, h.1])
      have h2 := h.2
      unfold alD at this h2 ⊢
      simp only [decide_eq_true_eq, decide_eq_false_iff_not, Bool.not_eq_true'] at this h2 ⊢
      rw [this.1, this.2]; exact h2
    · intro h
      exact ⟨u, hu, by simp [e1]; simpa using h⟩
  · refine .inr ⟨a, ?_⟩
    unfold badV
    rw [List.any_eq_false]
    intro x hx
    simp [b x hx]
theorem lawS : Keyed Tryz.prog 9 := Maps.string_keyed Tryz.underlying9
theorem zeroD (w : World) : (zeroValue 43).run Tryz.prog w = .ok (.agg #[.int .i64 0, .string ⟨#[]⟩, .string ⟨#[]⟩, .slice none 0 0]) w := by kernel_rfl
theorem keyOfS {s : ByteArray} (h : s.size ≤ 9223372036854775807) : keyOf Tryz.prog 9 (.string s) = some (keyS s) := WideMaps.keyOf_string_mk Tryz.underlying9 h
set_option maxRecDepth 100000 in
set_option maxHeartbeats 1000000 in
theorem unlike1_any (l : List Vv) (ho : Once l) (v : Vv) (g b n : Nat) (D : DataW Nat) (w : World) (hv : VAt v w w.heap.size) (hc : w.cell? ⟨g, 0, none⟩ = some (.map (some b))) (hown : w.ownsMap Tryz.prog 9 rdD b n D) (hD : Nm D l) :
    Calls Tryz.prog 108 #[v.v, .pointer (some ⟨g, 0, none⟩)] w fun e w' => e = .returned (.bool (badV l v)) ∧ Below w.heap.size w w' := by
  have hkey := keyOfS hv.d.name
  have hz := badV_has hD ho v (datD ⟨0, ⟨#[]⟩, ⟨#[]⟩, none, 0, []⟩)
  have hnew := fun (w1 : World) (e : w1 = _) => V11.new w 49 v (w1 := w1) e
  have cal := fun d W => alike_any d v.d W
  unfold Vv.row at hnew
  unfold Vv.v
  obtain ⟨r, hr⟩ : ∃ r, r = badV l v := ⟨_, rfl⟩
  rw [← hr] at hz ⊢
  replace hz := Lib.hid hz
  replace hnew := Lib.hid hnew
  replace cal := Lib.hid cal
  have hbg : g < w.heap.size := by
    rcases Nat.lt_or_ge g w.heap.size with x | x
    · exact x
    · exfalso
      unfold World.cell? at hc
      simp [Array.getElem?_eq_none x] at hc
  clear hr hv ho hD
  obtain ⟨ln, hln⟩ : ∃ ln, ln = v.d.l.length := ⟨_, rfl⟩
  obtain ⟨cn, hcn⟩ : ∃ cn, cn = v.cs.length := ⟨_, rfl⟩
  rw [← hln, ← hcn]
  replace hln := Lib.hid hln
  replace hcn := Lib.hid hcn
  go_enter Tryz.func108, Tryz.ntmps108
  go_upto_region 1 with fail
  obtain ⟨w1, hw1⟩ : ∃ w1, w1 = w.alloc (.cells #[.int .i64 v.d.kind, .string v.d.name, .string v.d.help, .slice v.d.A ln v.d.c, .int .i64 (hiI v.t), .int .u64 (loI v.t), .slice v.CA cn v.cc, .int .u64 v.n, .float .f64 v.sm, .float .f64 v.mn, .float .f64 v.mx] 49) := ⟨_, rfl⟩
  have hown1 : w1.ownsMap Tryz.prog 9 rdD b n D := by rw [hw1]; exact hown.alloc _
  rw [← hw1]
  obtain ⟨hb1, hlt1, hv1⟩ := hnew.out w1 (by rw [hw1, hln.out, hcn.out])
  have hc1 := kc hb1 hbg hc
  clear hw1 hnew hc hown
  obtain ⟨z0, z1, z2, z3, z4, z5, z6, z7, z8, z9, z10⟩ := id hv1
  rw [← hln.out] at z3
  clear z4 z5 z6 z7 z8 z9 z10 hcn hv1
  have hcase : (Maps.has D (keyS v.d.name) = true ∧ Hid (∃ u, D.atKey (keyS v.d.name) (datD ⟨0, ⟨#[]⟩, ⟨#[]⟩, none, 0, []⟩) = datD u ∧ r = !alD u v.d)) ∨ (Maps.has D (keyS v.d.name) = false ∧ r = false) := by
    rcases hz.out with ⟨h1, h2⟩ | h
    · exact .inl ⟨h1, Lib.hid h2⟩
    · exact .inr h
  clear hz
  rcases hcase with ⟨hh, hu⟩ | ⟨hh, rfl⟩
  · go_wp2_with (first
      | (at_lookup; refine wpList_lookup_own_ok _ rfl _ _ 115 rfl 9 43 lawS Tryz.underlying115 rdD (zeroD _) (datD ⟨0, ⟨#[]⟩, ⟨#[]⟩, none, 0, []⟩) [] rfl b n D rfl hown1 _ _ rfl hkey ?_; intro y ps hy; obtain ⟨d, rfl, hd⟩ := rdD_inv hy; replace hd := Lib.hid hd; clear hy; have cad := cal.out d; unfold DD.v at cad; rw [← hln.out] at cad)
      | (go_at_call 48; refine (cad _).mono ?_; rintro e w2 ⟨rfl, hb2⟩)
      | go_in)
    go_ret
    refine ⟨?_, ?_⟩
    · obtain ⟨u, h1, h2⟩ := hu.out
      have := datD_inj ((hd.out).symm.trans h1)
      have h3 : (!decide (d.kind = v.d.kind ∧ d.help = v.d.help)) = r := by rw [h2]; unfold alD; rw [this.1, this.2]
      rw [← h3]
      first | rfl | simp
    · have := hb1.size
      exact (hb1.trans (((Below.refl _ _).alloc (Nat.le_refl _) _).mono this)).trans (hb2.mono (by simp; omega))
  · go_wp2_with (first
      | (at_lookup; refine wpList_lookup_own_ok _ rfl _ _ 115 rfl 9 43 lawS Tryz.underlying115 rdD (zeroD _) (datD ⟨0, ⟨#[]⟩, ⟨#[]⟩, none, 0, []⟩) [] rfl b n D rfl hown1 _ _ rfl hkey ?_; intro y ps hy; obtain ⟨d, rfl, hd⟩ := rdD_inv hy; replace hd := Lib.hid hd; clear hy)
      | (go_at_call 48; fail)
      | go_in)
    go_ret
    exact ⟨rfl, hb1.trans (((Below.refl _ _).alloc (Nat.le_refl _) _).mono hb1.size)⟩
theorem unlike_ne (a b : Ss) (w : World) (h : a.p ≠ b.p) : Calls Tryz.prog 53 #[a.v, b.v] w fun e w' => e = .returned (.bool true) ∧ Below w.heap.size w w' := by
  obtain ⟨p, A, c, vs, r⟩ := a
  obtain ⟨q, B, k, us, s⟩ := b
  unfold Ss.v
  dsimp only at *
  generalize vs.length = n
  generalize us.length = m
  have hb0 : Below w.heap.size w ((w.alloc (.cells #[.int .i64 p, .slice A n c, .int .u64 r] 25)).alloc (.cells #[.int .i64 q, .slice B m k, .int .u64 s] 25)) := ((Below.refl _ _).alloc (Nat.le_refl _) _).alloc (by simp) _
  have hg : (p != q) = true := by simpa using h
  go_enter Tryz.func53, Tryz.ntmps53
  go_wp2
  go_ret
  exact ⟨rfl, hb0⟩
theorem enter_unlike (a : Array Value) (w : World) : (callFunc 108 a).run Tryz.prog w = .ok (.enter 108 a) w :=
  call_enter Tryz.func108 (by kernel_rfl) (by kernel_rfl) a w
set_option maxRecDepth 100000 in
set_option maxHeartbeats 1000000 in
theorem unlike_eq (a b : Ss) (w : World) (h : a.p = b.p) (ha : SAt a w w.heap.size) (hb : SAt b w w.heap.size) (ho : Once a.vs) : Calls Tryz.prog 53 #[a.v, b.v] w fun e w' => e = .returned (.bool (unlikeB a.vs b.vs)) ∧ Below w.heap.size w w' := by
  have hva := ha.vs
  have hvb := hb.vs
  have hla := ha.len2
  have hlb := hb.len2
  obtain ⟨p, A, c, vs, r⟩ := a
  obtain ⟨q, B, k, us, s⟩ := b
  unfold Ss.v
  dsimp only at *
  subst h
  obtain ⟨n, hn⟩ : ∃ n, n = vs.length := ⟨_, rfl⟩
  obtain ⟨m, hm⟩ : ∃ m, m = us.length := ⟨_, rfl⟩
  rw [← hn] at hla
  rw [← hm] at hlb
  have hlaI : (n : Int) ≤ 140737488355328 := by omega
  rw [← hn, ← hm]
  have hmm := @run_makeMap Tryz.prog
  obtain ⟨R, hR⟩ : ∃ R, R = unlikeB vs us := ⟨_, rfl⟩
  rw [← hR]
  replace hn := Lib.hid hn
  replace hm := Lib.hid hm
  replace hR := Lib.hid hR
  replace hva := Lib.hid hva
  replace hvb := Lib.hid hvb
  replace ho := Lib.hid ho
  clear ha hb hla
  go_enter Tryz.func53, Tryz.ntmps53
  go_upto_region 4 with fail
  have hw1 : ∃ w1 : World, w1 = ((((w.alloc (.cells #[.int .i64 p, .slice A n c, .int .u64 r] 25)).alloc (.cells #[.int .i64 p, .slice B m k, .int .u64 s] 25)).alloc (.map #[] 0)).alloc (.cells #[.map (some (w.heap.size + 1 + 1))] 115)) := ⟨_, rfl⟩
  obtain ⟨w1, hw1⟩ := hw1
  rw [← hw1]
  have hb1 : Below w.heap.size w w1 := by rw [hw1]; exact ((((Below.refl _ _).alloc (Nat.le_refl _) _).alloc (by simp) _).alloc (by simp; omega) _).alloc (by simp; omega) _
  have hs1 : w1.heap.size = w.heap.size + 4 := by rw [hw1]; simp
  have y0 : w1.cell? ⟨w.heap.size, 1, none⟩ = some (.slice A n c) := by rw [hw1]; go_cell
  have y1 : w1.cell? ⟨w.heap.size + 1, 1, none⟩ = some (.slice B m k) := by rw [hw1]; go_cell
  have y2 : w1.cell? ⟨w.heap.size + 1 + 1 + 1, 0, none⟩ = some (.map (some (w.heap.size + 1 + 1))) := by rw [hw1]; go_cell
  have hown1 : w1.ownsMap Tryz.prog 9 rdD (w.heap.size + 1 + 1) 0 (.map []) := by
    rw [hw1]
    have := World.ownsMap_made ((w.alloc (.cells #[.int .i64 p, .slice A n c, .int .u64 r] 25)).alloc (.cells #[.int .i64 p, .slice B m k, .int .u64 s] 25)) Tryz.prog 9 rdD
    rw [World.size_alloc, World.size_alloc] at this
    exact this.alloc _
  clear hw1
  go_wp2
  go_loopw [17] (fun v wr => ∃ i : Nat, v = .int .i64 (i : Int) ∧ i ≤ n ∧ (∃ D, wr.ownsMap Tryz.prog 9 rdD (w.heap.size + 1 + 1) i D ∧ Hid (Nm D (vs.take i))) ∧ Below w.heap.size w wr ∧ wr.cell? ⟨w.heap.size + 1, 1, none⟩ = some (.slice B m k) ∧ wr.cell? ⟨w.heap.size + 1 + 1 + 1, 0, none⟩ = some (.map (some (w.heap.size + 1 + 1))) ∧ w1.heap.size ≤ wr.heap.size) (fun v _ => n + 1 - natOf' v)
  case atStart => exact ⟨0, rfl, Nat.zero_le _, ⟨_, hown1, Lib.hid Nm.nil⟩, hb1, y1, y2, Nat.le_refl _⟩
  case round =>
    obtain ⟨i, rfl, hi, ⟨D, hown, hD⟩, hw, u1, u2, hsz⟩ := hrel
    clear hown1 y0 y1 y2
    by_cases hlt : i < n
    · have hil : i < vs.length := by rw [← hn.out]; exact hlt
      obtain ⟨b, off, hA, hbB, x0, x1, x2, x3, x4, x5, x6, x7, x8, x9, x10⟩ := (hva.out.below hw).cells i hil
      obtain ⟨v, hv⟩ : ∃ v, v = vs[i] := ⟨_, rfl⟩
      rw [← hv] at x0 x1 x2 x3 x4 x5 x6 x7 x8 x9 x10
      subst hA
      have hva' : VAt v w w.heap.size := by rw [hv]; exact hva.out.all _ (List.getElem_mem hil)
      have hkey := keyOfS hva'.d.name
      have hstep : Nm (D.put (keyS v.d.name) (datD v.d)) (vs.take (i + 1)) := by
        rw [List.take_succ_eq_append_getElem hil, ← hv]
        exact hD.out.put hown.isMap v
      replace hstep := Lib.hid hstep
      clear hva' hD
      have g1 : (i : Int) < (n : Int) := by omega
      replace hv := Lib.hid hv
      have hval : rdD (.agg #[.int .i64 v.d.kind, .string v.d.name, .string v.d.help, .slice v.d.A v.d.l.length v.d.c]) = some (datD v.d, []) := rdD_mk v.d
      obtain ⟨ln, hln⟩ : ∃ ln, ln = v.d.l.length := ⟨_, rfl⟩
      obtain ⟨cn, hcn⟩ : ∃ cn, cn = v.cs.length := ⟨_, rfl⟩
      rw [← hln] at x3 hval
      rw [← hcn] at x6
      replace hln := Lib.hid hln
      replace hcn := Lib.hid hcn
      have hnew := fun (w1 : World) (e : w1 = _) => V11.new wr 49 v (w1 := w1) e
      unfold Vv.row at hnew
      replace hnew := Lib.hid hnew
      have hsf := fun (a : Addr) (x : Nat) (W : World) => run_store Tryz.prog W a (.float .f64 x) .plain rfl
      go_upto_region 7 with fail
      obtain ⟨w3, hw3⟩ : ∃ w3, w3 = wr.alloc (.cells #[.int .i64 v.d.kind, .string v.d.name, .string v.d.help, .slice v.d.A ln v.d.c, .int .i64 (hiI v.t), .int .u64 (loI v.t), .slice v.CA cn v.cc, .int .u64 v.n, .float .f64 v.sm, .float .f64 v.mn, .float .f64 v.mx] 49) := ⟨_, rfl⟩
      have hown3 : w3.ownsMap Tryz.prog 9 rdD (w.heap.size + 1 + 1) i D := by rw [hw3]; exact hown.alloc _
      rw [← hw3]
      obtain ⟨hb3, hlt3, hv3⟩ := hnew.out w3 (by rw [hw3, hln.out, hcn.out])
      clear hw3 hnew x0 x1 x2 x3 x4 x5 x6 x7 x8 x9 x10 hsf hown
      have hw3 := hw.trans (hb3.mono hw.size)
      replace u1 := kc hb3 (by omega) u1
      replace u2 := kc hb3 (by omega) u2
      obtain ⟨z0, z1, z2, z3, z4, z5, z6, z7, z8, z9, z10⟩ := id hv3
      rw [← hln.out] at z3
      rw [← hcn.out] at z6
      have hsz3 := hb3.size
      go_wp2_with (first
        | (at_mapUpdate; refine wpList_mapUpdate_own _ rfl _ _ _ 115 rfl 9 43 lawS Tryz.underlying115 _ (w.heap.size + 1 + 1) i _ rfl hown3 (by unfold maxLen; omega) _ _ _ rfl rfl hkey _ [] hval ?_; intro w2 hown2 hgrow2)
        | go_in)
      refine ⟨⟨i + 1, by simp, hlt, ⟨_, hown2, hstep⟩, ?_, ?_, ?_, ?_⟩, by simp [natOf']; omega⟩
      · exact hw3.grown hgrow2 hw3.size (fun j hj => by cases hj; omega)
      · rw [World.cell?_of_block (w := w3) (hgrow2.block (w.heap.size + 1) (by omega) (by simp))]; exact u1
      · rw [World.cell?_of_block (w := w3) (hgrow2.block (w.heap.size + 1 + 1 + 1) (by omega) (by simp))]; exact u2
      · exact Nat.le_trans (Nat.le_trans hsz hsz3) hgrow2.size
    · obtain rfl : i = n := by omega
      clear hva
      have hcon := fun (W : World) (kk : Below wr.heap.size wr W) (g : Nat) (hg : W.cell? ⟨g, 0, none⟩ = some (.map (some (w.heap.size + 1 + 1)))) => containsV_any 108 enter_unlike (.pointer (some ⟨g, 0, none⟩)) (badV vs) us B k W (((hvb.out.below hw).mono hw.size).below kk |>.mono kk.size) (by rw [← hm.out]; exact hlb)
        (fun v hv W2 hb2 => by
          have hgg : g < W.heap.size := by
            rcases Nat.lt_or_ge g W.heap.size with x | x
            · exact x
            · exfalso
              unfold World.cell? at hg
              simp [Array.getElem?_eq_none x] at hg
          have hDD := hD.out
          rw [hn.out, List.take_length] at hDD
          have hbk := hb2.block (w.heap.size + 1 + 1) (by have := kk.size; omega)
          have hbk2 := kk.block (w.heap.size + 1 + 1) (by omega)
          have hown2 : W2.ownsMap Tryz.prog 9 rdD (w.heap.size + 1 + 1) i D := by
            obtain ⟨es, clock, h1, h2⟩ := hown
            exact ⟨es, clock, by rw [hbk, hbk2]; exact h1, h2⟩
          exact unlike1_any vs ho.out v g (w.heap.size + 1 + 1) i D W2 (((hvb.out.all v hv).below hw).mono hw.size |>.below kk |>.mono kk.size |>.below hb2 |>.mono hb2.size) (kc hb2 hgg hg) hown2 hDD)
      rw [show us.any (badV vs) = R by rw [hR.out]; rfl, ← hm.out] at hcon
      go_wp2_with (go_at_call 107; refine (hcon _ (Below.refl _ _) _ u2).mono ?_; rintro e w2 ⟨rfl, hb2⟩)
      go_ret
      exact ⟨rfl, hw.trans (hb2.mono hw.size)⟩
end Go.Proofs.YtpiegngjpnpohaaGreat.Sn
