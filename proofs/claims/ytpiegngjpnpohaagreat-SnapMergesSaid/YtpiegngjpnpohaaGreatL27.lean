/- Lemmas for the laws of this seat, laid together of Sg, SnQ, SnO. -/
import Derived.Test.YtpiegngjpnpohaaGreatL24
import Derived.Test.YtpiegngjpnpohaaGreatL25
import Derived.Test.YtpiegngjpnpohaaGreatL26

namespace Go.Proofs.YtpiegngjpnpohaaGreat.Sn
open Go.RowKit Go.Proofs.YtpiegngjpnpohaaGreat.La Go.Proofs.YtpiegngjpnpohaaGreat.Sl Go.Proofs.YtpiegngjpnpohaaGreat.Ck Go.Proofs.YtpiegngjpnpohaaGreat.Rc Go.Proofs.YtpiegngjpnpohaaGreat.Rk Go.Proofs.YtpiegngjpnpohaaGreat.Wi Go.Proofs.YtpiegngjpnpohaaGreat.Fb Go.Proofs.YtpiegngjpnpohaaGreat.Mg Go.Proofs.YtpiegngjpnpohaaGreat.St Go.Proofs.YtpiegngjpnpohaaGreat.So
set_option linter.unusedVariables false
theorem sameV_c {x y : Vv} (h : x.c = y.c) : sameV x y = true := by
  simp only [Vv.c, Cv.mk.injEq] at h
  obtain ⟨h1, h2, h3, h4, h5, h6, h7, h8, h9, h10⟩ := h
  simp [sameV, sameD, sameFl, h1, h2, h3, h4, h5, h6, h7, h8, h9, h10]
theorem sameL_self : ∀ a : List Vv, sameL a a = true
  | [] => rfl
  | x :: xs => by
    unfold sameL
    rw [sameV_c rfl, sameL_self xs]; rfl
theorem sameS_self (a : Ss) : sameS a a = true := by
  unfold sameS
  rw [sameL_self]
  simp
def findC (s : Ss) (nm : ByteArray) (l : List Lab) : Cv := match findV s.vs nm l with | none => zeroV.c | some v => v.c
def findE (s : Ss) (nm : ByteArray) (l : List Lab) : Int := if findV s.vs nm l = none then 6 else 0
theorem find_C (s : Ss) (nm : ByteArray) (A0 : Option Addr) (c0 : Nat) (l : List Lab) (w : World) (h : SAt s w w.heap.size) (hq : QAt nm A0 c0 l w w.heap.size) (hb : ∀ v ∈ s.vs, v.d.l.length ≤ 4398046511104 ∧ v.cs.length ≤ 8796093022208) :
    Calls Tryz.prog 24 #[s.v, .string nm, .slice A0 l.length c0] w fun e w' => ∃ u : Vv, e = .returned (.tuple #[u.v, .int .i64 (findE s nm l)]) ∧ VAt u w' w'.heap.size ∧ u.c = findC s nm l ∧ Below w.heap.size w w' :=
  (find_any s nm A0 c0 l w h hq hb).mono fun e w' ⟨b, u, he, hu, _, hc⟩ => ⟨u, he, hu, hc, b⟩
end Go.Proofs.YtpiegngjpnpohaaGreat.Sn

namespace Go.Proofs.YtpiegngjpnpohaaGreat.Sn
open Go.RowKit Go.Proofs.YtpiegngjpnpohaaGreat.La Go.Proofs.YtpiegngjpnpohaaGreat.Sl Go.Proofs.YtpiegngjpnpohaaGreat.Ck Go.Proofs.YtpiegngjpnpohaaGreat.Rc Go.Proofs.YtpiegngjpnpohaaGreat.Rk Go.Proofs.YtpiegngjpnpohaaGreat.Wi Go.Proofs.YtpiegngjpnpohaaGreat.Fb Go.Proofs.YtpiegngjpnpohaaGreat.Mg Go.Proofs.YtpiegngjpnpohaaGreat.St Go.Proofs.YtpiegngjpnpohaaGreat.Bk
set_option linter.unusedVariables false
theorem ordD : Ord3 (ByteArray × List Lab) fun x y => if cB x.1 y.1 ≠ 0 then cB x.1 y.1 else cmpLs x.2 y.2 := cB_ord.lex labs_ord
theorem cmpD_rng (a b : DD) : cmpD a b = -1 ∨ cmpD a b = 0 ∨ cmpD a b = 1 := by
  have := ordD.range (a.name, a.l) (b.name, b.l)
  rw [← cmpD_ord a b] at this
  exact this
theorem cmpD_anti (a b : DD) : cmpD b a = - cmpD a b := by
  have h := ordD.neg (a.name, a.l) (b.name, b.l)
  rw [← cmpD_ord a b, ← cmpD_ord b a] at h
  exact h
theorem cmpD_le (a b c : DD) (h1 : cmpD a b ≤ 0) (h2 : cmpD b c ≤ 0) : cmpD a c ≤ 0 := by
  have := ordD.trans (a.name, a.l) (b.name, b.l) (c.name, c.l)
  rw [← cmpD_ord a b, ← cmpD_ord b c, ← cmpD_ord a c] at this
  exact this h1 h2
theorem cmpD_congr {a b a' b' : DD} (h1 : a.name = a'.name) (h2 : a.l = a'.l) (h3 : b.name = b'.name) (h4 : b.l = b'.l) : cmpD a b = cmpD a' b' := by
  unfold cmpD
  rw [h1, h2, h3, h4]
theorem cmpD_lt (a b c : DD) (h1 : cmpD a b < 0) (h2 : cmpD b c < 0) : cmpD a c < 0 := by
  have h := cmpD_le a b c (by omega) (by omega)
  rcases cmpD_rng a c with e | e | e
  · omega
  · exfalso
    have hz := (cmpD_zero a c).1 e
    have : cmpD b c = cmpD b a := cmpD_congr rfl rfl hz.1.symm hz.2.symm
    have h3 := cmpD_anti a b
    omega
  · omega
theorem cmpD_name {a b : DD} (h : cmpD a b < 0) : cB a.name b.name ≤ 0 := by
  unfold cmpD at h
  split at h
  · omega
  · rename_i e
    have : cB a.name b.name = 0 := Decidable.not_not.1 e
    omega
theorem name_between {a b c : DD} (h1 : cmpD a b < 0) (h2 : cmpD b c < 0) (h : a.name = c.name) : a.name = b.name := by
  have e1 := cmpD_name h1
  have e2 := cmpD_name h2
  rw [← h] at e2
  have e3 := cB_neg a.name b.name
  exact (cB_zero _ _).1 (by omega)
def Tt (u v : Vv) : Prop := cmpD u.d v.d < 0 ∧ (u.d.name = v.d.name → u.d.kind = v.d.kind ∧ u.d.help = v.d.help)
theorem Tt.trans {u v x : Vv} (h1 : Tt u v) (h2 : Tt v x) : Tt u x := by
  refine ⟨cmpD_lt _ _ _ h1.1 h2.1, fun e => ?_⟩
  have e1 := name_between h1.1 h2.1 e
  have a := h1.2 e1
  have b := h2.2 (e1.symm.trans e)
  exact ⟨a.1.trans b.1, a.2.trans b.2⟩
theorem Tt.of {u v : Vv} (h : behV u v = 0) : Tt u v := by
  unfold behV at h
  by_cases h0 : cmpD u.d v.d = 0
  · rw [if_pos h0] at h; cases h
  · rw [if_neg h0] at h
    by_cases h1 : 0 < cmpD u.d v.d
    · rw [if_pos h1] at h; cases h
    · rw [if_neg h1] at h
      refine ⟨by omega, fun e => ?_⟩
      by_cases h2 : u.d.kind = v.d.kind ∧ u.d.help = v.d.help
      · exact h2
      · rw [if_pos ⟨e, h2⟩] at h; cases h
theorem Tt.beh {u v : Vv} (h : Tt u v) : behV u v = 0 := by
  have := h.1
  unfold behV
  rw [if_neg (by omega), if_neg (by omega), if_neg (fun e => e.2 (h.2 e.1))]
structure Chk (p : Int) (vs : List Vv) : Prop where
  each : ∀ v ∈ vs, chkD v.d = 0 ∧ holdB p v = true
  ord : vs.Pairwise Tt
theorem scan_ok (p : Int) : ∀ (vs : List Vv) (prev : Option Vv) (i : Int), (scan p prev vs i).1 = 0 ↔ Chk p vs ∧ (∀ u, prev = some u → ∀ v ∈ vs, Tt u v)
  | [], prev, i => by simp only [scan]; exact ⟨fun _ => ⟨⟨by simp, List.Pairwise.nil⟩, by simp⟩, fun _ => by first | rfl | trivial⟩
  | v :: r, prev, i => by
    have ih := scan_ok p r (some v) (i + 1)
    unfold scan
    constructor
    · intro h
      by_cases hs : stepE p prev v = 0
      · rw [if_neg (fun e => e hs)] at h
        obtain ⟨hc, hv⟩ := ih.1 h
        have hv := hv v rfl
        unfold stepE at hs
        by_cases e1 : chkD v.d = 0
        · rw [if_neg (fun e => e e1)] at hs
          by_cases e2 : holdB p v = false
          · rw [if_pos e2] at hs; cases hs
          · rw [if_neg e2] at hs
            have e2' : holdB p v = true := by simpa using e2
            refine ⟨⟨fun x hx => ?_, List.pairwise_cons.2 ⟨hv, hc.ord⟩⟩, fun u hu x hx => ?_⟩
            · rcases List.mem_cons.1 hx with rfl | hx
              · exact ⟨e1, e2'⟩
              · exact hc.each x hx
            · subst hu
              have t0 := Tt.of hs
              rcases List.mem_cons.1 hx with rfl | hx
              · exact t0
              · exact t0.trans (hv x hx)
        · rw [if_pos e1] at hs; exact absurd hs e1
      · rw [if_pos hs] at h; exact absurd h hs
    · rintro ⟨hc, hp⟩
      obtain ⟨e1, e2⟩ := hc.each v (by simp)
      obtain ⟨o1, o2⟩ := List.pairwise_cons.1 hc.ord
      have hs : stepE p prev v = 0 := by
        unfold stepE
        rw [if_neg (fun e => e e1), if_neg (by rw [e2]; decide)]
        cases prev with
        | none => rfl
        | some u => exact (hp u rfl v (by simp)).beh
      rw [if_neg (fun e => e hs)]
      exact ih.2 ⟨⟨fun x hx => hc.each x (by simp [hx]), o2⟩, fun u hu => by cases hu; exact o1⟩
theorem scan_snd (p : Int) : ∀ (vs : List Vv) (prev : Option Vv) (i : Int), (scan p prev vs i).1 = 0 → (scan p prev vs i).2 = 0
  | [], prev, i, _ => rfl
  | v :: r, prev, i, h => by
    unfold scan at h ⊢
    by_cases hs : stepE p prev v = 0
    · rw [if_neg (fun e => e hs)] at h ⊢; exact scan_snd p r _ _ h
    · rw [if_pos hs] at h; exact absurd h hs
theorem chkS_ok (p : Int) (vs : List Vv) : (chkS p vs).1 = 0 ↔ good p ∧ vs.length ≤ 256 ∧ Chk p vs := by
  unfold chkS good
  by_cases h1 : p < 1 ∨ 14 < p
  · rw [if_pos h1]
    constructor
    · intro h; cases h
    · intro h; omega
  · rw [if_neg h1]
    by_cases h2 : 256 < vs.length
    · rw [if_pos h2]
      constructor
      · intro h; cases h
      · intro h; omega
    · rw [if_neg h2, scan_ok]
      constructor
      · intro h; exact ⟨by omega, by omega, h.1⟩
      · intro h; exact ⟨h.2.2, by simp⟩
theorem chkS_snd {p : Int} {vs : List Vv} (h : (chkS p vs).1 = 0) : (chkS p vs).2 = 0 := by
  have h' := (chkS_ok p vs).1 h
  unfold chkS good at *
  rw [if_neg (by omega), if_neg (by omega)] at h ⊢
  exact scan_snd _ _ _ _ h
theorem pw_all {R : Vv → Vv → Prop} (hs : ∀ u v, R u v → R v u) (hr : ∀ u, R u u) : ∀ {l : List Vv}, l.Pairwise R → ∀ u ∈ l, ∀ v ∈ l, R u v
  | [], _, u, hu, _, _ => by simp at hu
  | x :: r, h, u, hu, v, hv => by
    obtain ⟨o1, o2⟩ := List.pairwise_cons.1 h
    rcases List.mem_cons.1 hu with e1 | hu1
    · rcases List.mem_cons.1 hv with e2 | hv1
      · rw [e1, e2]; exact hr _
      · rw [e1]; exact o1 v hv1
    · rcases List.mem_cons.1 hv with e2 | hv1
      · rw [e2]; exact hs _ _ (o1 u hu1)
      · exact pw_all hs hr o2 u hu1 v hv1
theorem Chk.once {p : Int} {vs : List Vv} (h : Chk p vs) : Once vs := by
  have := pw_all (R := fun u v : Vv => u.d.name = v.d.name → alD u.d v.d = true) (l := vs)
    (fun u v h e => by have := h e.symm; unfold alD at this ⊢; simp only [decide_eq_true_eq] at this ⊢; exact ⟨this.1.symm, this.2.symm⟩)
    (fun u e => by unfold alD; simp)
    (h.ord.imp fun {u v} t e => by unfold alD; exact decide_eq_true (t.2 e))
  exact fun u hu v hv => this u hu v hv
theorem chk_rise (p : Int) : ∀ (l : List Cnt) (prev : Option Int), chk p prev l = 0 → (∀ c ∈ l, 0 ≤ c.1 ∧ c.1 < lenI p ∧ c.2 ≠ 0 ∧ (∀ q, prev = some q → q < c.1)) ∧ l.Pairwise fun x y => x.1 < y.1
  | [], _, _ => by simp
  | c :: r, prev, h => by
    unfold chk at h
    by_cases h1 : c.1 < 0 ∨ lenI p ≤ c.1
    · rw [if_pos h1] at h; cases h
    · rw [if_neg h1] at h
      by_cases h2 : ∃ q, prev = some q ∧ c.1 ≤ q
      · rw [if_pos h2] at h; cases h
      · rw [if_neg h2] at h
        by_cases h3 : c.2 = 0
        · rw [if_pos h3] at h; cases h
        · rw [if_neg h3] at h
          obtain ⟨i1, i2⟩ := chk_rise p r (some c.1) h
          have hq : ∀ q, prev = some q → q < c.1 := fun q hq => by
            by_cases g : q < c.1
            · exact g
            · exact absurd ⟨q, hq, by omega⟩ h2
          refine ⟨fun x hx => ?_, List.pairwise_cons.2 ⟨fun x hx => (i1 x hx).2.2.2 c.1 rfl, i2⟩⟩
          rcases List.mem_cons.1 hx with rfl | hx
          · exact ⟨by omega, by omega, h3, hq⟩
          · obtain ⟨a, b, d, e⟩ := i1 x hx
            exact ⟨a, b, d, fun q hq' => by have := hq q hq'; have := e c.1 rfl; omega⟩
theorem rise_len : ∀ (l : List Cnt) (lo hi : Int), (∀ c ∈ l, lo ≤ c.1 ∧ c.1 < hi) → (l.Pairwise fun x y => x.1 < y.1) → (l.length : Int) ≤ max 0 (hi - lo)
  | [], lo, hi, _, _ => by simp; omega
  | c :: r, lo, hi, h, ho => by
    obtain ⟨o1, o2⟩ := List.pairwise_cons.1 ho
    have hc := h c (by simp)
    have := rise_len r (c.1 + 1) hi (fun x hx => ⟨by have := o1 x hx; omega, (h x (by simp [hx])).2⟩) o2
    simp only [List.length_cons]
    omega
theorem lenI_le (p : Int) : 0 ≤ lenI p ∧ lenI p ≤ 819200 := by
  unfold lenI
  by_cases h : good p
  · rw [if_pos h]
    unfold good at h
    have : p = 1 ∨ p = 2 ∨ p = 3 ∨ p = 4 ∨ p = 5 ∨ p = 6 ∨ p = 7 ∨ p = 8 ∨ p = 9 ∨ p = 10 ∨ p = 11 ∨ p = 12 ∨ p = 13 ∨ p = 14 := by omega
    rcases this with rfl | rfl | rfl | rfl | rfl | rfl | rfl | rfl | rfl | rfl | rfl | rfl | rfl | rfl <;> decide
  · rw [if_neg h]; omega
theorem may_facts {p : Int} {l : List Cnt} (h : mayE p l = 0) (ok : ∀ c ∈ l, okC c) : good p ∧ (∀ c ∈ l, 0 ≤ c.1 ∧ c.1 < lenI p ∧ 1 ≤ c.2) ∧ (l.Pairwise fun x y => x.1 < y.1) ∧ sumN l ≤ 9223372036854775807 ∧ l.length ≤ 819200 ∧ totF 0 l = sumN l := by
  unfold mayE at h
  by_cases h1 : good p
  · rw [if_neg (fun e => e h1)] at h
    by_cases h2 : chk p none l = 0
    · rw [if_neg (fun e => e h2)] at h
      by_cases h3 : 9223372036854775807 < sumN l
      · rw [if_pos h3] at h; cases h
      · obtain ⟨a, b⟩ := chk_rise p l none h2
        have hl := rise_len l 0 (lenI p) (fun c hc => ⟨(a c hc).1, (a c hc).2.1⟩) b
        have hle := lenI_le p
        have h0 := sumN_nonneg ok
        refine ⟨h1, fun c hc => ⟨(a c hc).1, (a c hc).2.1, ?_⟩, b, by omega, by omega, ?_⟩
        · have := (a c hc).2.2.1
          have := ok c hc
          unfold okC at this
          omega
        · have := totF_sum l 0 (by decide) (fun c hc => (ok c hc).2.2.1) (by omega)
          omega
    · rw [if_pos h2] at h; exact absurd h h2
  · rw [if_pos h1] at h; cases h
theorem lowS_nonneg (p : Int) : ∀ (l : List Cnt), (∀ c ∈ l, okC c) → 0 ≤ lowS p l
  | [], _ => by simp [lowS]
  | c :: r, h => by
    have ih := lowS_nonneg p r (fun x hx => h x (by simp [hx]))
    have h1 := (lo_rng (p := p) (i := c.1)).1
    have h2 := (h c (by simp)).2.2.1
    have := Int.mul_nonneg h1 h2
    simp only [lowS, List.map_cons, List.sum_cons] at ih ⊢
    omega
theorem zeroF_iff {x : Nat} : zeroF x = true ↔ x = 0 := by simp [zeroF]
theorem fin_zero : finF 0 = true := by decide
theorem okV_of {p : Int} {v : Vv} (pl : PlainV v) (h1 : chkD v.d = 0) (h2 : holdB p v = true) : OkV v := by
  have hk : v.d.kind = 1 ∨ v.d.kind = 2 ∨ v.d.kind = 3 := by
    unfold chkD at h1
    by_cases h : v.d.kind ≠ 1 ∧ v.d.kind ≠ 2 ∧ v.d.kind ≠ 3
    · rw [if_pos h] at h1; cases h1
    · omega
  have hl : v.d.l.length ≤ 16 := by
    unfold chkD at h1
    rw [if_neg (by omega)] at h1
    by_cases e1 : nameL v.d.name.data.toList = false
    · rw [if_pos e1] at h1; cases h1
    · rw [if_neg e1] at h1
      by_cases e2 : valE v.d.help = 0
      · rw [if_neg (fun e => e e2)] at h1
        by_cases e3 : 16 < v.d.l.length
        · rw [if_pos e3] at h1; cases h1
        · omega
      · rw [if_pos e2] at h1; exact absurd h1 e2
  have hn := pl.n
  unfold holdB at h2
  have hz : zer3 v = true → v.sm = 0 ∧ v.mn = 0 ∧ v.mx = 0 := fun e => by
    unfold zer3 at e
    simp only [Bool.and_eq_true, zeroF_iff] at e
    exact ⟨e.1.1, e.1.2, e.2⟩
  have hzf : v.sm = 0 ∧ v.mn = 0 ∧ v.mx = 0 → finF v.sm = true ∧ finF v.mn = true ∧ finF v.mx = true := fun e => by
    rw [e.1, e.2.1, e.2.2]; exact ⟨fin_zero, fin_zero, fin_zero⟩
  rcases hk with hk | hk | hk
  · rw [if_pos hk] at h2
    simp only [Bool.and_eq_true, decide_eq_true_eq] at h2
    have z := hz h2.1.2
    exact ⟨.inl hk, h2.2, by omega, hzf z, fun _ => z, hl, by omega⟩
  · rw [if_neg (by omega), if_pos hk] at h2
    simp only [Bool.and_eq_true] at h2
    have z := hz h2.1
    have hh := h2.2
    unfold histB at hh
    simp only [decide_eq_true_eq] at hh
    have mf := may_facts hh.1 pl.ok
    have hlo := lowS_nonneg p v.cs pl.ok
    exact ⟨.inr (.inl hk), by omega, by omega, hzf z, fun _ => z, hl, by omega⟩
  · rw [if_neg (by omega), if_neg (by omega)] at h2
    by_cases hb : v.t ≠ 0 ∨ 0 < v.cs.length ∨ 9223372036854775807 < v.n
    · rw [if_pos hb] at h2; cases h2
    · rw [if_neg hb] at h2
      by_cases h0 : v.n = 0
      · rw [if_pos h0] at h2
        have z := hz h2
        exact ⟨.inr (.inr hk), by omega, by omega, hzf z, fun _ => z, hl, by omega⟩
      · rw [if_neg h0] at h2
        simp only [Bool.and_eq_true] at h2
        have hf := h2.1
        unfold fin3 at hf
        simp only [Bool.and_eq_true] at hf
        exact ⟨.inr (.inr hk), by omega, by omega, ⟨hf.1.1, hf.1.2, hf.2⟩, fun h => by omega, hl, by omega⟩
end Go.Proofs.YtpiegngjpnpohaaGreat.Sn

namespace Go.Proofs.YtpiegngjpnpohaaGreat.Sn
open Go.RowKit Go.Proofs.YtpiegngjpnpohaaGreat.La Go.Proofs.YtpiegngjpnpohaaGreat.Sl Go.Proofs.YtpiegngjpnpohaaGreat.Ck Go.Proofs.YtpiegngjpnpohaaGreat.Rc Go.Proofs.YtpiegngjpnpohaaGreat.Rk Go.Proofs.YtpiegngjpnpohaaGreat.Wi Go.Proofs.YtpiegngjpnpohaaGreat.Fb Go.Proofs.YtpiegngjpnpohaaGreat.Mg Go.Proofs.YtpiegngjpnpohaaGreat.St
set_option linter.unusedVariables false
set_option maxRecDepth 100000 in
set_option maxHeartbeats 2000000 in
theorem lay3_any (w0 : World) (B0 g : Nat) (p r E : Int) (L : List (Option Vv × Option Vv)) (k : Nat) (W : World) (px py : Value) (x y : Vv) (h : MSt w0 B0 g p r L k E W) (hpx : PAt w0 B0 px (some x)) (hpy : PAt w0 B0 py (some y)) (hq : L[k]? = some (some x, some y)) (hk : k ≤ 1048576)
    (ox : OkV x) (oy : OkV y) (hkind : x.d.kind = y.d.kind) :
    Calls Tryz.prog 57 #[px, py, .pointer (some ⟨g, 0, none⟩), .pointer (some ⟨g + 1, 0, none⟩)] W fun e w' => e = .returned (.tuple #[]) ∧ MSt w0 B0 g p r L (k + 1) (if E = 0 then twoE x.c y.c else E) w' := by
  obtain ⟨hv, b, o, rfl, hbB, hcc⟩ := hpx
  obtain ⟨hv2, b2, o2', rfl, hbB2, hcc2⟩ := hpy
  obtain ⟨i0, hi, hz0, hz1, hz2⟩ := info_parts infoVal
  have hgW : g < W.heap.size := by have := h.size; omega
  have hB0 : B0 ≤ W.heap.size := by have := h.base; omega
  have hbW : b < W.heap.size := by omega
  have hbW2 : b2 < W.heap.size := by omega
  have x0 := kc h.below hbB (hcc 0 _ rfl)
  have x1 := kc h.below hbB (hcc 1 _ rfl)
  have x2 := kc h.below hbB (hcc 2 _ rfl)
  have x3 := kc h.below hbB (hcc 3 _ rfl)
  have x4 := kc h.below hbB (hcc 4 _ rfl)
  have x5 := kc h.below hbB (hcc 5 _ rfl)
  have x6 := kc h.below hbB (hcc 6 _ rfl)
  have x7 := kc h.below hbB (hcc 7 _ rfl)
  have x8 := kc h.below hbB (hcc 8 _ rfl)
  have x9 := kc h.below hbB (hcc 9 _ rfl)
  have x10 := kc h.below hbB (hcc 10 _ rfl)
  rw [Nat.add_zero] at x0
  have y0 := kc h.below hbB2 (hcc2 0 _ rfl)
  have y1 := kc h.below hbB2 (hcc2 1 _ rfl)
  have y2 := kc h.below hbB2 (hcc2 2 _ rfl)
  have y3 := kc h.below hbB2 (hcc2 3 _ rfl)
  have y4 := kc h.below hbB2 (hcc2 4 _ rfl)
  have y5 := kc h.below hbB2 (hcc2 5 _ rfl)
  have y6 := kc h.below hbB2 (hcc2 6 _ rfl)
  have y7 := kc h.below hbB2 (hcc2 7 _ rfl)
  have y8 := kc h.below hbB2 (hcc2 8 _ rfl)
  have y9 := kc h.below hbB2 (hcc2 9 _ rfl)
  have y10 := kc h.below hbB2 (hcc2 10 _ rfl)
  rw [Nat.add_zero] at y0
  have vx : VAt x W W.heap.size := (hv.below h.below).mono hB0
  have vy : VAt y W W.heap.size := (hv2.below h.below).mono hB0
  have cbo := fun W2 (kk : Below W.heap.size W W2) => both_any x y W2 ((vx.below kk).mono kk.size) ((vy.below kk).mono kk.size) ox oy hkind
  unfold Vv.v at cbo
  obtain ⟨A, c, us, o1, o2, o3, o4⟩ := h.out
  obtain ⟨ln, hln⟩ : ∃ ln, ln = x.d.l.length := ⟨_, rfl⟩
  obtain ⟨cn, hcn⟩ : ∃ cn, cn = x.cs.length := ⟨_, rfl⟩
  obtain ⟨lm, hlm⟩ : ∃ ln, ln = y.d.l.length := ⟨_, rfl⟩
  obtain ⟨cm, hcm⟩ : ∃ cn, cn = y.cs.length := ⟨_, rfl⟩
  rw [← hln] at x3 cbo
  rw [← hcn] at x6 cbo
  rw [← hlm] at y3 cbo
  rw [← hcm] at y6 cbo
  clear hln hcn hlm hcm
  have hgb := h.base
  have hgs := h.size
  have hfz := h.fro
  have hE := h.wr
  have hfE := h.frow
  obtain ⟨E2, hE2⟩ : ∃ E2, E2 = twoE x.c y.c := ⟨_, rfl⟩
  rw [← hE2] at cbo ⊢
  obtain ⟨E3, hE3⟩ : ∃ E3, E3 = if E = 0 then E2 else E := ⟨_, rfl⟩
  rw [← hE3]
  replace hE3 := Lib.hid hE3
  have hsf := fun (a : Addr) (x : Nat) (W : World) => run_store Tryz.prog W a (.float .f64 x) .plain rfl
  replace hE2 := Lib.hid hE2
  replace h := Lib.hid h
  replace hv := Lib.hid hv
  replace hv2 := Lib.hid hv2
  replace vx := Lib.hid vx
  replace vy := Lib.hid vy
  replace cbo := Lib.hid cbo
  replace hcc := Lib.hid hcc
  replace hcc2 := Lib.hid hcc2
  replace o4 := Lib.hid o4
  replace o3 := Lib.hid o3
  replace hq := Lib.hid hq
  replace hkind := Lib.hid hkind
  replace ox := Lib.hid ox
  replace oy := Lib.hid oy
  go_enter Tryz.func57, Tryz.ntmps57
  go_upto_region 0 with fail
  go_cut [6, 7] (fun s6 s7 wx => ∃ bx : Nat, s6 = .pointer (some ⟨bx, 0, none⟩) ∧ s7 = .int .i64 E2 ∧ Hid (Below W.heap.size W wx ∧ W.heap.size ≤ bx ∧ ∃ v' : Vv, Blk wx bx v'.row ∧ (E2 = 0 → PlainV v' ∧ OwnV W.heap.size wx v' ∧ v'.c = outP (some x, some y))))
  case first =>
    have hS : ∀ Wx, Below W.heap.size W Wx → (Wx.cell? ⟨b, o, none⟩ = some (.int .i64 x.d.kind) ∧ Wx.cell? ⟨b, o + 1, none⟩ = some (.string x.d.name) ∧ Wx.cell? ⟨b, o + 2, none⟩ = some (.string x.d.help) ∧ Wx.cell? ⟨b, o + 3, none⟩ = some (.slice x.d.A ln x.d.c) ∧ Wx.cell? ⟨b, o + 4, none⟩ = some (.int .i64 (hiI x.t)) ∧ Wx.cell? ⟨b, o + 5, none⟩ = some (.int .u64 (loI x.t)) ∧ Wx.cell? ⟨b, o + 6, none⟩ = some (.slice x.CA cn x.cc) ∧ Wx.cell? ⟨b, o + 7, none⟩ = some (.int .u64 x.n) ∧ Wx.cell? ⟨b, o + 8, none⟩ = some (.float .f64 x.sm) ∧ Wx.cell? ⟨b, o + 9, none⟩ = some (.float .f64 x.mn) ∧ Wx.cell? ⟨b, o + 10, none⟩ = some (.float .f64 x.mx) ∧
      Wx.cell? ⟨b2, o2', none⟩ = some (.int .i64 y.d.kind) ∧ Wx.cell? ⟨b2, o2' + 1, none⟩ = some (.string y.d.name) ∧ Wx.cell? ⟨b2, o2' + 2, none⟩ = some (.string y.d.help) ∧ Wx.cell? ⟨b2, o2' + 3, none⟩ = some (.slice y.d.A lm y.d.c) ∧ Wx.cell? ⟨b2, o2' + 4, none⟩ = some (.int .i64 (hiI y.t)) ∧ Wx.cell? ⟨b2, o2' + 5, none⟩ = some (.int .u64 (loI y.t)) ∧ Wx.cell? ⟨b2, o2' + 6, none⟩ = some (.slice y.CA cm y.cc) ∧ Wx.cell? ⟨b2, o2' + 7, none⟩ = some (.int .u64 y.n) ∧ Wx.cell? ⟨b2, o2' + 8, none⟩ = some (.float .f64 y.sm) ∧ Wx.cell? ⟨b2, o2' + 9, none⟩ = some (.float .f64 y.mn) ∧ Wx.cell? ⟨b2, o2' + 10, none⟩ = some (.float .f64 y.mx)) := fun Wx hb => ⟨kc hb hbW x0, kc hb hbW x1, kc hb hbW x2, kc hb hbW x3, kc hb hbW x4, kc hb hbW x5, kc hb hbW x6, kc hb hbW x7, kc hb hbW x8, kc hb hbW x9, kc hb hbW x10, kc hb hbW2 y0, kc hb hbW2 y1, kc hb hbW2 y2, kc hb hbW2 y3, kc hb hbW2 y4, kc hb hbW2 y5, kc hb hbW2 y6, kc hb hbW2 y7, kc hb hbW2 y8, kc hb hbW2 y9, kc hb hbW2 y10⟩
    replace hS := Lib.hid hS
    have hr0 : Below W.heap.size W W.drew := below_drewN (Below.refl _ W) 1
    have hr1 : Below W.heap.size W (W.alloc (.cells #[.int .i64 0, .string ⟨#[]⟩, .string ⟨#[]⟩, .slice none 0 0, .int .i64 0, .int .u64 0, .slice none 0 0, .int .u64 0, .float .f64 0, .float .f64 0, .float .f64 0] 49)).drew := below_drewN ((Below.refl _ W).alloc (Nat.le_refl _) _) 1
    have hz0' : Blk (W.alloc (.cells #[.int .i64 0, .string ⟨#[]⟩, .string ⟨#[]⟩, .slice none 0 0, .int .i64 0, .int .u64 0, .slice none 0 0, .int .u64 0, .float .f64 0, .float .f64 0, .float .f64 0] 49)).drew W.heap.size [.int .i64 0, .string ⟨#[]⟩, .string ⟨#[]⟩, .slice none 0 0, .int .i64 0, .int .u64 0, .slice none 0 0, .int .u64 0, .float .f64 0, .float .f64 0, .float .f64 0] := (Blk.new W [.int .i64 0, .string ⟨#[]⟩, .string ⟨#[]⟩, .slice none 0 0, .int .i64 0, .int .u64 0, .slice none 0 0, .int .u64 0, .float .f64 0, .float .f64 0, .float .f64 0] 49).later (below_drewN (Below.refl _ _) 1)
    replace hz0' := Lib.hid hz0'
    go_region_held3 (fun Wx => Wx.cell? ⟨b, o, none⟩ = some (.int .i64 x.d.kind) ∧ Wx.cell? ⟨b, o + 1, none⟩ = some (.string x.d.name) ∧ Wx.cell? ⟨b, o + 2, none⟩ = some (.string x.d.help) ∧ Wx.cell? ⟨b, o + 3, none⟩ = some (.slice x.d.A ln x.d.c) ∧ Wx.cell? ⟨b, o + 4, none⟩ = some (.int .i64 (hiI x.t)) ∧ Wx.cell? ⟨b, o + 5, none⟩ = some (.int .u64 (loI x.t)) ∧ Wx.cell? ⟨b, o + 6, none⟩ = some (.slice x.CA cn x.cc) ∧ Wx.cell? ⟨b, o + 7, none⟩ = some (.int .u64 x.n) ∧ Wx.cell? ⟨b, o + 8, none⟩ = some (.float .f64 x.sm) ∧ Wx.cell? ⟨b, o + 9, none⟩ = some (.float .f64 x.mn) ∧ Wx.cell? ⟨b, o + 10, none⟩ = some (.float .f64 x.mx) ∧
      Wx.cell? ⟨b2, o2', none⟩ = some (.int .i64 y.d.kind) ∧ Wx.cell? ⟨b2, o2' + 1, none⟩ = some (.string y.d.name) ∧ Wx.cell? ⟨b2, o2' + 2, none⟩ = some (.string y.d.help) ∧ Wx.cell? ⟨b2, o2' + 3, none⟩ = some (.slice y.d.A lm y.d.c) ∧ Wx.cell? ⟨b2, o2' + 4, none⟩ = some (.int .i64 (hiI y.t)) ∧ Wx.cell? ⟨b2, o2' + 5, none⟩ = some (.int .u64 (loI y.t)) ∧ Wx.cell? ⟨b2, o2' + 6, none⟩ = some (.slice y.CA cm y.cc) ∧ Wx.cell? ⟨b2, o2' + 7, none⟩ = some (.int .u64 y.n) ∧ Wx.cell? ⟨b2, o2' + 8, none⟩ = some (.float .f64 y.sm) ∧ Wx.cell? ⟨b2, o2' + 9, none⟩ = some (.float .f64 y.mn) ∧ Wx.cell? ⟨b2, o2' + 10, none⟩ = some (.float .f64 y.mx))
      (first | (with_reducible exact hS.out _ hbw1) | (with_reducible exact hS.out _ (hbn _)) | (with_reducible exact hS.out _ hr1) | (with_reducible exact hS.out _ hr0) | (refine hS.out _ ?_; clear x0 x1 x2 x3 x4 x5 x6 x7 x8 x9 x10 y0 y1 y2 y3 y4 y5 y6 y7 y8 y9 y10; go_grown))
      (first | (go_at_call 59; refine (cbo.out _ hr0).mono ?_; rintro e W1 ⟨hb1, v', rfl, hnv⟩; have hbw1 := hr0.trans (hb1.mono (Nat.le_refl _)); have hbn := fun ob => hbw1.alloc hbw1.size ob; replace hnv := Lib.hid hnv) | (go_at_call 59; refine (cbo.out _ hr1).mono ?_; rintro e W1 ⟨hb1, v', rfl, hnv⟩; have hbw1 := hr1.trans (hb1.mono (by simp)); have kz := hz0'.out.later hb1; have r0 := (kz.2 0 _ rfl).1; have s0 := (kz.2 0 _ rfl).2; have r1 := (kz.2 1 _ rfl).1; have s1 := (kz.2 1 _ rfl).2; have r2 := (kz.2 2 _ rfl).1; have s2 := (kz.2 2 _ rfl).2; have r3 := (kz.2 3 _ rfl).1; have s3 := (kz.2 3 _ rfl).2; have r4 := (kz.2 4 _ rfl).1; have s4 := (kz.2 4 _ rfl).2; have r5 := (kz.2 5 _ rfl).1; have s5 := (kz.2 5 _ rfl).2; have r6 := (kz.2 6 _ rfl).1; have s6 := (kz.2 6 _ rfl).2; have r7 := (kz.2 7 _ rfl).1; have s7 := (kz.2 7 _ rfl).2; have r8 := (kz.2 8 _ rfl).1; have s8 := (kz.2 8 _ rfl).2; have r9 := (kz.2 9 _ rfl).1; have s9 := (kz.2 9 _ rfl).2; have r10 := (kz.2 10 _ rfl).1; have s10 := (kz.2 10 _ rfl).2; replace hnv := Lib.hid hnv))
    · skip
      go_wp2
      go_meet
      case rel =>
        refine ⟨W1.heap.size, rfl, rfl, Lib.hid ⟨hbn _, hbw1.size, v', Blk.new W1 v'.row 49, fun e => ?_⟩⟩
        obtain ⟨e1, e2, e3⟩ := hnv.out e
        exact ⟨e2.plain, (e3.base (Nat.le_refl _)).later ((Below.refl _ _).alloc (Nat.le_refl _) _), e1⟩
    · skip
      go_wp2
      go_meet
      case rel =>
        refine ⟨W.heap.size, rfl, rfl, Lib.hid ⟨below_st11 hbw1 (Nat.le_refl _) _ _ _ _ _ _ _ _ _ _ _, Nat.le_refl _, v', kz.st11 rfl _ _ _ _ _ _ _ _ _ _ _, fun e => ?_⟩⟩
        obtain ⟨e1, e2, e3⟩ := hnv.out e
        exact ⟨e2.plain, (OwnV.st11 e3 (by simp) _ _ _ _ _ _ _ _ _ _ _).base (by simp), e1⟩
  case rest =>
    obtain ⟨bx, rfl, rfl, hcut⟩ := hcut
    obtain ⟨hbx, hxle, v', kv, hv'⟩ := hcut.out
    have hM := h.out.later hbx
    have hvv : E2 = 0 → PlainV v' ∧ OwnV (g + 2) wc v' ∧ v'.c = outP (some x, some y) := fun e => ⟨(hv' e).1, (hv' e).2.1.base (by omega), (hv' e).2.2⟩
    have hg1 : g + 1 ≠ bx := by omega
    have hg0 : g ≠ bx := by omega
    replace hv' := Lib.hid hvv
    clear hvv hcut x0 x1 x2 x3 x4 x5 x6 x7 x8 x9 x10 y0 y1 y2 y3 y4 y5 y6 y7 y8 y9 y10 cbo o1 o2 o3 o4 hE hfE hfz
    have e1 := hM.wr
    have fe1 := hM.frow
    replace hM := Lib.hid hM
    replace kv := Lib.hid kv
    go_upto_if 19 with fail
    go_cut [6] (fun s6 wx => s6 = .pointer (some ⟨bx, 0, none⟩) ∧ Hid (MSt w0 B0 g p r L k E3 wx ∧ Blk wx bx v'.row ∧ (E3 = 0 → PlainV v' ∧ OwnV (g + 2) wx v' ∧ v'.c = outP (some x, some y))))
    case first =>
      by_cases hE0 : E = 0
      · subst hE0
        have e3 : E3 = E2 := by rw [hE3.out]; exact if_pos rfl
        replace e3 := Lib.hid e3
        go_wp2
        go_meet
        case rel =>
          refine ⟨rfl, Lib.hid ⟨?_, kv.out.other hg1 _, fun e => ?_⟩⟩
          · rw [e3.out]; exact hM.out.wrong E2
          · rw [e3.out] at e
            exact ⟨(hv'.out e).1, (hv'.out e).2.1.set (by omega) _, (hv'.out e).2.2⟩
      · have gE : (E == 0) = false := by simpa using hE0
        have e3 : E3 = E := by rw [hE3.out]; exact if_neg hE0
        replace e3 := Lib.hid e3
        replace hE0 := Lib.hid hE0
        go_wp2
        go_meet
        case rel =>
          refine ⟨rfl, Lib.hid ⟨?_, kv.out, fun e => ?_⟩⟩
          · rw [e3.out]; exact hM.out
          · rw [e3.out] at e; exact absurd e hE0.out
    case rest =>
      obtain ⟨rfl, hcut⟩ := hcut
      obtain ⟨hM2, kv2, hv2'⟩ := hcut.out
      clear hcut e1 fe1 hM kv hv' hE2
      clear hE3
      obtain ⟨A, c, us, o1, o2, o3, o4⟩ := hM2.out
      have hfz := hM2.fro
      have hsz2 := hM2.size
      have x0 := (kv2.2 0 _ rfl).1
      have x1 := (kv2.2 1 _ rfl).1
      have x2 := (kv2.2 2 _ rfl).1
      have x3 := (kv2.2 3 _ rfl).1
      have x4 := (kv2.2 4 _ rfl).1
      have x5 := (kv2.2 5 _ rfl).1
      have x6 := (kv2.2 6 _ rfl).1
      have x7 := (kv2.2 7 _ rfl).1
      have x8 := (kv2.2 8 _ rfl).1
      have x9 := (kv2.2 9 _ rfl).1
      have x10 := (kv2.2 10 _ rfl).1
      replace hM2 := Lib.hid hM2
      replace hv2' := Lib.hid hv2'
      replace o3 := Lib.hid o3
      replace o4 := Lib.hid o4
      clear kv2
      go_wp2_with (at_builtin; refine wpList_append_rg rfl (.tmp 22) (.tmp 24) _ rfl (g + 2) 49 Tryz.underlying22 hi hz0 hz1 hz2 rfl (by decide) rfl (o2.alloc _) rfl (Rd.new wc v'.row 49 11 1 rfl) (row_one v') (by unfold maxLen; omega) (by omega) (by simp; omega) ?_; intro A4 c4 W4 ho4 hg4 hob4; have hfin := lay_end hM2.out (Below.refl _ _) o2 o3.out o4.out hq.out (v := v') (fun e => hv2'.out e) hg4 ho4; replace hfin := Lib.hid hfin; have q4 : W4.cell? ⟨g, 1, none⟩ = some (.slice A k c) := hg4.cell (a := ⟨g, 1, none⟩) (by rw [World.cell?_alloc_some _ _ _ (by rw [o1]; rfl)]; exact o1) (fun e => by have := (o2.lt g e.symm).1; omega); have f4 : W4.frozen? ⟨g, 1, none⟩ = false := by (have hl := (show g < (wc.alloc (Obj.cells v'.row.toArray 49)).heap.size by simp; omega); unfold World.frozen?; rw [hg4.block g hl (fun e => by have := (o2.lt g e.symm).1; omega)]; exact (frozen?_alloc_cells _ _ _ _).trans hfz))
      go_end0
      exact ⟨rfl, hfin.out⟩
end Go.Proofs.YtpiegngjpnpohaaGreat.Sn
