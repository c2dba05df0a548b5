/- Lemmas for the laws of this seat, laid together of PHe, PHg, PIg, PIk, PIq, PIr. -/
import Derived.Test.YtimlbbleblijnaaU19
import Derived.Test.YtimlbbleblijnaaU22
import Derived.Test.YtimlbbleblijnaaU24
import Derived.Test.YtimlbbleblijnaaU25

open Go.ConcR.Gen (base_kind baseD_kind)
set_option linter.unusedVariables false
set_option linter.unusedSimpArgs false
namespace Go.Proofs.Ytimlbbleblijnaa.Co
open Go Go.Conc Go.RowKit
structure AS where
  held : Int
  ok : Bool
  st : Int
structure AL where
  i : Nat
  c : Nat
  v : Int
inductive AdvA (ops : List Op3) (c : Nat) : Nat → AS → AS × Option AL → Prop
  | stop {i s} (h : ops.length ≤ i) : AdvA ops c i s ({ s with ok := true, st := (c : Int) }, none)
  | call {i s} {op : Op3} (h : ops[i]? = some op) (hc : isC op.1 = true) : AdvA ops c i s (s, some ⟨i, c, s.held⟩)
  | skip {i s z} {op : Op3} (h : ops[i]? = some op) (hc : isC op.1 = false) (t : AdvA ops c (i + 1) s z) : AdvA ops c i s z
theorem AdvA.held {ops : List Op3} {c i : Nat} {s : AS} {z : AS × Option AL} (h : AdvA ops c i s z) {s' : AS} {l' : AL} : z = (s', some l') → s'.held = l'.v := by
  induction h with
  | stop => intro e; cases e
  | call => intro e; cases e; rfl
  | skip _ _ _ ih => exact ih
structure AM (xb okb stb : Nat) (K : Nat → Obj → Prop) (s : AS) (E : Env) (w : World) : Prop where
  word : WordAt w ⟨xb, 0, none⟩ s.held
  wordH : E.H xb = none
  okc : w.heap[okb]? = some (.cells #[.bool s.ok] 4)
  okH : E.H okb = none
  stc : w.heap[stb]? = some (.cells #[.int .i64 s.st] 3)
  stH : E.H stb = none
  kobj : ∀ b o, K b o → w.heap[b]? = some o ∧ E.H b = none ∧ b ≠ xb ∧ b ≠ okb ∧ b ≠ stb
  d1 : xb ≠ okb
  d2 : xb ≠ stb
  d3 : okb ≠ stb
  rng : -9223372036854775808 ≤ s.held ∧ s.held ≤ 9223372036854775807
theorem AM.konst {xb okb stb : Nat} {K : Nat → Obj → Prop} {s : AS} {E : Env} {w : World} (m : AM xb okb stb K s E w) (a : Addr) (v : Value) (h : KC K a v) : w.cell? a = some v ∧ E.H a.block = none := by
  obtain ⟨o, h1, h2⟩ := h
  obtain ⟨k1, k2, _⟩ := m.kobj _ _ h1
  exact ⟨h2 w k1, k2⟩
theorem AM.move {xb okb stb : Nat} {K : Nat → Obj → Prop} {s : AS} {E E' : Env} {w w' : World} (m : AM xb okb stb K s E w) (hb : ∀ b, b < w.heap.size → E.H b = none → E'.H b = none ∧ w'.heap[b]? = w.heap[b]?) : AM xb okb stb K s E' w' := by
  obtain ⟨h0, c, t, h1, h2⟩ := m.word
  have l1 := (Array.getElem?_eq_some_iff.1 h1).1
  have l2 := (Array.getElem?_eq_some_iff.1 m.okc).1
  have l3 := (Array.getElem?_eq_some_iff.1 m.stc).1
  refine ⟨m.word.same (hb xb l1 m.wordH).2, (hb xb l1 m.wordH).1, (hb okb l2 m.okH).2.trans m.okc, (hb okb l2 m.okH).1, (hb stb l3 m.stH).2.trans m.stc, (hb stb l3 m.stH).1, fun b o hk => ?_, m.d1, m.d2, m.d3, m.rng⟩
  obtain ⟨k1, k2, k3⟩ := m.kobj b o hk
  have l4 := (Array.getElem?_eq_some_iff.1 k1).1
  exact ⟨(hb b l4 k2).2.trans k1, (hb b l4 k2).1, k3⟩
theorem AM.still {xb okb stb j : Nat} {K : Nat → Obj → Prop} {s : AS} {E E' : Env} {w w' : World} (m : AM xb okb stb K s E w) (S : Still j E w E' w') : AM xb okb stb K s E' w' :=
  m.move fun b hb hn => by
    obtain ⟨s1, s2⟩ := S.st b _ hn (Array.getElem?_eq_getElem hb)
    exact ⟨s1, by rw [s2, Array.getElem?_eq_getElem hb]⟩
noncomputable def aB : Code := Try.f30.body.getD .skip
noncomputable def a0 : Code := match aB with | .seq x _ => x | _ => .skip
noncomputable def a1 : Code := match aB with | .seq _ x => x | _ => .skip
section
variable {h rb xb okb stb : Nat} {home : Goroutine → Prop} {k : Int} {th : Th} {F : Machine → Trace → Prop} {E : Env} {w : World} {s : AS} {K : Nat → Obj → Prop} {ops : List Op3} {b₀ : Frame} {a₀ : Act} {ops₀ : Array Oper} {i₀ : Nat} {rest₀ : List Nat} {k₀ : List Item} {cl : List Frame}
end
section
variable {σ Λ : Type}
end
section
variable {P : Program} {h : Nat} {F : Machine → Trace → Prop} {E : Env} {w : World} {Fs : FuncId → Bool}
theorem HG.quietM (os : List Obj) (hC : Closed P Fs) {fr : Frame} {T : Array Value} {k : List Item} {cs : List Frame} {c : Code} (R : Array Value → Nat → Prop) (hq : quietCode P Fs c = true) (hk : fr.kind = .normal)
    (hwp : ∀ x : World, x.heap.size = w.heap.size → (∀ b, E.H b = none → x.heap[b]? = w.heap[b]?) → c.wp P (fun e a' x' => e = .normal ∧ a'.defers = [] ∧ (∀ b, b < x.heap.size → x'.heap[b]? = x.heap[b]?) ∧ (∀ (i : Nat) o, os[i]? = some o → x'.heap[x.heap.size + i]? = some o) ∧ R a'.tmps x.heap.size) ⟨T, []⟩ x)
    (hg : ∀ (E1 : Env) (w1 : World) (T' : Array Value), Still h E w E1 w1 → (∀ (i : Nat) o, os[i]? = some o → w1.heap[w.heap.size + i]? = some o ∧ E1.H (w.heap.size + i) = none) → R T' w.heap.size → HG P h F E1 (G (fr.at ⟨T', []⟩ k) cs) w1) : HG P h F E (G (fr.at ⟨T, []⟩ (.code c :: k)) cs) w := by
  refine HG.quietS (fun _ => False) (fun _ z => z.elim) hC (Q := fun a' x x' => (∀ (i : Nat) o, os[i]? = some o → x'.heap[x.heap.size + i]? = some o) ∧ R a'.tmps x.heap.size) hq hk rfl (fun x hxs hx => ?_) (fun E1 w' a' x x' hE hd hxs hx hxs' hx' hK hB hSt hq => ?_)
  · exact Code.wp_mono (fun e a' x' ⟨q1, q2, q3, q4, q5⟩ => ⟨q1, q2, fun b hb _ => q3 b hb, q4, q5⟩) (hwp x hxs hx)
  · obtain ⟨Ta, df⟩ := a'
    have hdf : df = [] := hd
    subst hdf
    refine hg E1 w' Ta ⟨hK, hE.H', fun b o h1 h2 => ⟨by rw [hE.H']; exact h1, ?_⟩⟩ (fun i o hi => ?_) (by rw [← hxs]; exact hq.2)
    · have hl := (Array.getElem?_eq_some_iff.1 h2).1
      rw [hx' b h1, hSt b (by omega) id, hx b h1]
      exact h2
    · have h1 := hq.1 i o hi
      rw [hxs] at h1
      have h2 := hB (w.heap.size + i) (by omega)
      exact ⟨(hx' _ h2).trans h1, by rw [hE.H']; exact h2⟩
end
structure NM (xb : Nat) (K : Nat → Obj → Prop) (v : Int) (E : Env) (w : World) : Prop where
  word : WordAt w ⟨xb, 0, none⟩ v
  wordH : E.H xb = none
  kobj : ∀ b o, K b o → w.heap[b]? = some o ∧ E.H b = none ∧ b ≠ xb
  rng : -9223372036854775808 ≤ v ∧ v ≤ 9223372036854775807
theorem NM.konst {xb : Nat} {K : Nat → Obj → Prop} {v : Int} {E : Env} {w : World} (m : NM xb K v E w) (a : Addr) (u : Value) (h : KC K a u) : w.cell? a = some u ∧ E.H a.block = none := by
  obtain ⟨o, h1, h2⟩ := h
  obtain ⟨k1, k2, _⟩ := m.kobj _ _ h1
  exact ⟨h2 w k1, k2⟩
theorem NM.still {xb j : Nat} {K : Nat → Obj → Prop} {v : Int} {E E' : Env} {w w' : World} (m : NM xb K v E w) (S : Still j E w E' w') : NM xb K v E' w' := by
  obtain ⟨s1, s2⟩ := S.word m.word m.wordH
  refine ⟨s1, s2, fun b o hk => ?_, m.rng⟩
  obtain ⟨k1, k2, k3⟩ := m.kobj b o hk
  obtain ⟨z1, z2⟩ := S.st b o k2 k1
  exact ⟨z2, z1, k3⟩
section
variable {j xb la lo cap : Nat} {F : Machine → Trace → Prop} {K : Nat → Obj → Prop} {ops : List Op3} {b₀ : Frame} {a₀ : Act} {ops₀ : Array Oper} {i₀ : Nat} {rest₀ : List Nat} {k₀ : List Item} {cl : List Frame}
end
section
variable {P : Program} {h : Nat} {F : Machine → Trace → Prop} {E : Env} {w : World} {Fs : FuncId → Bool}
theorem HG.quietX (os : List Obj) (hC : Closed P Fs) {fr : Frame} {T : Array Value} {k : List Item} {cs : List Frame} {c : Code} (R : Array Value → Nat → Prop) (hq : quietCode P Fs c = true) (hk : fr.kind = .normal)
    (hwp : ∀ x : World, x.heap.size = w.heap.size → (∀ b, E.H b = none → x.heap[b]? = w.heap[b]?) → c.wp P (fun e a' x' => e = .normal ∧ a'.defers = [] ∧ (∀ b, b < x.heap.size → x'.heap[b]? = x.heap[b]?) ∧ x'.heap.size = x.heap.size + os.length ∧ (∀ (i : Nat) o, os[i]? = some o → x'.heap[x.heap.size + i]? = some o) ∧ R a'.tmps x.heap.size) ⟨T, []⟩ x)
    (hg : ∀ (E1 : Env) (w1 : World) (T' : Array Value), Still h E w E1 w1 → w1.heap.size = w.heap.size + os.length → (∀ (i : Nat) o, os[i]? = some o → w1.heap[w.heap.size + i]? = some o ∧ E1.H (w.heap.size + i) = none) → R T' w.heap.size → HG P h F E1 (G (fr.at ⟨T', []⟩ k) cs) w1) : HG P h F E (G (fr.at ⟨T, []⟩ (.code c :: k)) cs) w := by
  refine HG.quietS (fun _ => False) (fun _ z => z.elim) hC (Q := fun a' x x' => x'.heap.size = x.heap.size + os.length ∧ (∀ (i : Nat) o, os[i]? = some o → x'.heap[x.heap.size + i]? = some o) ∧ R a'.tmps x.heap.size) hq hk rfl (fun x hxs hx => ?_) (fun E1 w' a' x x' hE hd hxs hx hxs' hx' hK hB hSt hq => ?_)
  · exact Code.wp_mono (fun e a' x' ⟨q1, q2, q3, q4, q5, q6⟩ => ⟨q1, q2, fun b hb _ => q3 b hb, q4, q5, q6⟩) (hwp x hxs hx)
  · obtain ⟨Ta, df⟩ := a'
    have hdf : df = [] := hd
    subst hdf
    refine hg E1 w' Ta ⟨hK, hE.H', fun b o h1 h2 => ⟨by rw [hE.H']; exact h1, ?_⟩⟩ (by rw [← hxs', hq.1, hxs]) (fun i o hi => ?_) (by rw [← hxs]; exact hq.2.2)
    · have hl := (Array.getElem?_eq_some_iff.1 h2).1
      rw [hx' b h1, hSt b (by omega) id, hx b h1]
      exact h2
    · have h1 := hq.2.1 i o hi
      rw [hxs] at h1
      have h2 := hB (w.heap.size + i) (by omega)
      exact ⟨(hx' _ h2).trans h1, by rw [hE.H']; exact h2⟩
end
noncomputable def xmS3 : Code := mS3
section
variable {h : Nat} {F : Machine → Trace → Prop} {E : Env} {w : World} {b₀ : Frame} {a₀ : Act} {ops₀ : Array Oper} {i₀ : Nat} {rest₀ : List Nat} {k₀ : List Item} {cl : List Frame}
structure MadeR (E : Env) (w : World) (B tbx bbx bb : Nat) (tv : Value) (n : Nat) (LA : Nat → Option Addr) (TB : Nat → Nat) (v : Value) : Prop where
  row : w.ownsRow B 52 1 v n ((List.range n).map (bodyV LA TB tbx bbx))
  rowH : ∀ g, v.ownBlock = some g → E.H g = none
  box : ∀ i, i < n → w.cell? ⟨TB i, 0, none⟩ = some (.int .i64 (i : Int)) ∧ E.H (TB i) = none ∧ B ≤ TB i
  cx : w.cell? ⟨tbx, 0, none⟩ = some tv
  cxH : E.H tbx = none
  cb : w.cell? ⟨bbx, 0, none⟩ = some (.pointer (some ⟨bb, 0, none⟩))
  cbH : E.H bbx = none
  le : B ≤ tbx ∧ B ≤ bbx
set_option maxRecDepth 100000 in
set_option maxHeartbeats 4000000 in
theorem bodies_in {tv : Value} {ta : Option Addr} {ba bo n cap bb : Nat} {LA : Nat → Option Addr} {LN LC : Nat → Nat} (htv : tv = .slice ta n cap) (hta : 0 < n → ta = some ⟨ba, bo, none⟩) (hn : n ≤ 1000000000000)
    (hcell : ∀ i, i < n → w.cell? ⟨ba, bo + i, none⟩ = some (.slice (LA i) (LN i) (LC i)) ∧ E.H ba = none)
    (hc : ∀ E' w' v TB, Still h E w E' w' → MadeR E' w' w.heap.size w.heap.size (w.heap.size + 1) bb tv n LA TB v → HG Try.prog h F E' (G (b₀.at (a₀.put ((ops₀[i₀]?).bind (·.dst)) v) (.inRegion ops₀ rest₀ :: k₀)) cl) w') :
    HGn Try.prog h F E w 200 (entry 39 Try.f39 #[tv, .pointer (some ⟨bb, 0, none⟩)] (b₀.at a₀ (.inRegion ops₀ (i₀ :: rest₀) :: k₀) :: cl)) := by
  unfold entry
  rw [show Try.f39.body.getD .skip = .seq mS0 (.seq mS1 (.seq mS2 mS3)) from mdB_parts, show Try.f39.ntmps = 28 from rfl]
  refine Idl.step (idl_hg Try.prog h F E w) _ _ _ rfl (fun _ => stepG_seq) ?_
  refine HG.quietM [.cells #[tv] 57, .cells #[.pointer (some ⟨bb, 0, none⟩)] 61] (closed_none _) (fun T s => T.size = 28 ∧ T[2]? = some (.pointer (some ⟨s, 0, none⟩)) ∧ T[3]? = some (.pointer (some ⟨s + 1, 0, none⟩))) (by kernel_rfl) (by rfl) (fun x _ hx => ?_) (fun E1 w1 T1 S1 N1 hR => ?_)
  · refine mS0_wp htv rfl (fun T' x' a1 a2 a3 a4 a5 a6 => ⟨rfl, rfl, a4, (fun i o hi => ?_), a1, a2, a3⟩)
    match i, hi with
    | 0, hi => cases hi; exact a5
    | 1, hi => cases hi; exact a6
    | i + 2, hi => simp at hi
  obtain ⟨s1, r2, r3⟩ := hR
  obtain ⟨n1, n1H⟩ := N1 0 _ rfl
  obtain ⟨n2, n2H⟩ := N1 1 _ rfl
  rw [Nat.add_zero] at n1 n1H
  have z1 := (Array.getElem?_eq_some_iff.1 n2).1
  change HGn Try.prog h F E1 w1 100 _
  refine Idl.step (idl_hg Try.prog h F E1 w1) _ _ _ rfl (fun _ => stepG_seq) ?_
  refine HG.quietX [.cells #[] 52] (closed_none _) (fun T s => T.size = 28 ∧ (∀ j, j < 5 → T[j]? = T1[j]?) ∧ T[5]? = some (.slice (some ⟨s, 0, none⟩) 0 0)) (by kernel_rfl) (by rfl) (fun x _ hx => ?_) (fun E2 w2 T2 S2 z2' N2 hR => ?_)
  · refine mS1_wp s1 (fun T' x' a1 a2 a3 a4 => ⟨rfl, rfl, fun b hb => by rw [a4, Array.getElem?_push, if_neg (by omega)], by rw [a4, Array.size_push]; rfl, (fun i o hi => ?_), a1, a2, a3⟩)
    match i, hi with
    | 0, hi => cases hi; rw [a4]; simp
  obtain ⟨s2, o2, r5⟩ := hR
  have z2' : w2.heap.size = w1.heap.size + 1 := z2'
  obtain ⟨n3, n3H⟩ := N2 0 _ rfl
  rw [Nat.add_zero] at n3 n3H
  have z2 := (Array.getElem?_eq_some_iff.1 n3).1
  obtain ⟨n12H, n12⟩ := S2.st _ _ n1H n1
  obtain ⟨n22H, n22⟩ := S2.st _ _ n2H n2
  have S12 := S1.trans S2
  have hrow0 : w2.ownsRow w1.heap.size 52 1 (.slice (some ⟨w1.heap.size, 0, none⟩) 0 0) 0 [] := ⟨by simp, .inr ⟨w1.heap.size, 0, #[], rfl, Nat.le_refl _, n3, by simp, by simp, by simp, by simp⟩⟩
  change HGn Try.prog h F E2 w2 100 _
  refine Idl.step (idl_hg Try.prog h F E2 w2) _ _ _ rfl (fun _ => stepG_seq) ?_
  refine HG.quietS (fun c => c = w1.heap.size) (fun c e => by rw [e]; exact n3H) (closed_none _) (Q := fun a' x x' => ∃ v TB, a'.tmps.size = 28 ∧ a'.tmps[5]? = some v ∧ Bx2 w1.heap.size w.heap.size (w.heap.size + 1) LA TB v n x' ∧ Below w1.heap.size x x') (by kernel_rfl) (by rfl) rfl (fun x hxs hx => ?_) (fun E3 w3 a' x x' hE hd hxs hx hxs' hx' hK hB hSt hq => ?_)
  · refine mS2_wp (B := w1.heap.size) (tbx := w.heap.size) (bbx := w.heap.size + 1) (bb := bb) (ta := ta) (ba := ba) (bo := bo) (cap := cap) (LN := LN) (LC := LC) s2 ((o2 2 (by decide)).trans r2) ((o2 3 (by decide)).trans r3) r5 (ownsRow_same hrow0 (fun g hg => hx g ?_)) hta ?_ ?_ (fun i hi => ?_) hn (by omega) ⟨by omega, by omega, fun hp => ?_⟩ (fun T' x' v TB a1 a2 a3 a4 => ⟨rfl, rfl, fun b hb hne => a4.block b (by omega), v, TB, a1, a2, a3, a4⟩)
    · have : w1.heap.size = g := by simpa [Value.ownBlock] using hg
      rw [← this]; exact n3H
    · exact (World.cell?_of_block (a := ⟨w.heap.size, 0, none⟩) (hx _ n12H)).trans ((obj_cell n12 (o := 0) rfl).trans (by rw [htv]; rfl))
    · exact (World.cell?_of_block (a := ⟨w.heap.size + 1, 0, none⟩) (hx _ n22H)).trans (obj_cell n22 (o := 0) rfl)
    · obtain ⟨k1, k2⟩ := hcell i hi
      obtain ⟨d1, d2⟩ := S12.st.cell k1 k2
      exact (World.cell?_of_block (a := ⟨ba, bo + i, none⟩) (hx _ d2)).trans d1
    · have := World.block_lt_of_cell? w _ (hcell 0 hp).1
      have := S1.kept.size
      dsimp only at *
      omega
  obtain ⟨Ta, df⟩ := a'
  have hdf : df = [] := hd
  subst hdf
  obtain ⟨v, TB, q1, q2, q3, q4⟩ := hq
  dsimp only at q1 q2
  have hvis : ∀ b, w1.heap.size ≤ b → E2.H b = none := fun b hb => by
    by_cases e : b = w1.heap.size
    · rw [e]; exact n3H
    · exact hB b (by omega)
  have hkeep : ∀ b, b < w1.heap.size → E2.H b = none → w3.heap[b]? = w2.heap[b]? := fun b hb hH => by rw [hx' b hH, hSt b (by omega) (by omega), hx b hH]
  have S13 : Still h E w E3 w3 := by
    refine ⟨S12.kept.trans hK, hE.H'.trans S12.H, fun b o h1 h2 => ?_⟩
    obtain ⟨y1, y2⟩ := S12.st b o h1 h2
    have hl := (Array.getElem?_eq_some_iff.1 h2).1
    have := S1.kept.size
    exact ⟨by rw [hE.H']; exact y1, by rw [hkeep b (by omega) y1]; exact y2⟩
  have hM : MadeR E3 w3 w.heap.size w.heap.size (w.heap.size + 1) bb tv n LA TB v := by
    have hs1 := S1.kept.size
    refine ⟨owns_lower (ownsRow_same q3.row (fun g hg => hx' g (hvis g (q3.row.lt g hg).1))) hs1, fun g hg => by rw [hE.H']; exact hvis g (q3.row.lt g hg).1, fun i hi => ?_, ?_, by rw [hE.H']; exact n12H, ?_, by rw [hE.H']; exact n22H, Nat.le_refl _, Nat.le_succ _⟩
    · obtain ⟨b1, b2, b3⟩ := q3.box i hi
      exact ⟨(World.cell?_of_block (a := ⟨TB i, 0, none⟩) (hx' _ (hvis _ b2))).trans b1, by rw [hE.H']; exact hvis _ b2, by omega⟩
    · exact (World.cell?_of_block (a := ⟨w.heap.size, 0, none⟩) (hkeep w.heap.size (by omega) n12H)).trans (obj_cell n12 (o := 0) rfl)
    · exact (World.cell?_of_block (a := ⟨w.heap.size + 1, 0, none⟩) (hkeep (w.heap.size + 1) (by omega) n22H)).trans (obj_cell n22 (o := 0) rfl)
  have hfin := hc E3 w3 v TB S13 hM
  replace hfin := Lib.hid hfin
  obtain ⟨f, hf, fz⟩ := arrfv Ta q1
  have e5 := fz 5 _ q2
  clear hM S13 hkeep hvis q4 q3 q2 q1 hSt hB hK hx' hxs' hx hxs hE hrow0 S12 n22 n12 n22H n12H n3 n3H r5 o2 s2 N2 S2 n1 n2 n1H n2H r2 r3 s1 N1 S1 fz hcell hn hta hc hd htv z1 z2
  rw [hf]
  change HGn Try.prog h F E3 w3 100 _
  rw [show mS3 = xmS3 from rfl]
  simp only [xmS3, mS3, mdB, Try.f39, Option.getD_some, List.range, List.range.loop, List.map_cons, List.map_nil, e5]
  refine Idl.q (idl_hg Try.prog h F E3 w3) (Idl.rg (idl_hg Try.prog h F E3 w3) [0, 1] rfl ?_)
  iterate 2 (apply Idl.value (idl_hg Try.prog h F E3 w3) rfl rfl (by first | decide | exact base_kind _ | exact baseD_kind _ | assumption); (focus (intro w; go_simp; (try w_num); first | done | rfl)); (focus (intro w; simp [go_sem, *])); walk_nrm)
  refine Idl.re (idl_hg Try.prog h F E3 w3) (Idl.rt (idl_hg Try.prog h F E3 w3) ?_)
  refine Idl.leaveV (n := 1) (v := v) (fn := Try.f39) (idl_hg Try.prog h F E3 w3) rfl rfl Try.func39 (fun w => by simp [results, Try.f39, go_sem]) (fun w => by simp [results, Try.f39, go_sem]) ?_
  exact hfin.out
end
end Go.Proofs.Ytimlbbleblijnaa.Co

namespace Go.Proofs.Ytimlbbleblijnaa.Co
open Go Go.Conc Go.RowKit
open Go.ConcN (sumTo upd sumTo_upd upd_ne upd_same sumTo_congr le_sumTo)
theorem advR_on {ops : List Int} {t : Nat} {k : Int} {i : Nat} {tl : Tl3} {s : RSt} {z : RSt × Option RL} (h : AdvR ops t k i tl s z) : i ≤ ops.length → z.1.told = (onF ops t k (ops.length - i) i tl s.told).2.2 ∧
    ((z.2 = some ⟨t, (onF ops t k (ops.length - i) i tl s.told).1, (onF ops t k (ops.length - i) i tl s.told).2.1⟩ ∧ (onF ops t k (ops.length - i) i tl s.told).1 < ops.length) ∨ (z.2 = none ∧ (onF ops t k (ops.length - i) i tl s.told).1 = ops.length)) := by
  induction h with
  | @stop i tl s h =>
    intro hi
    rw [onF_stop h]
    exact ⟨rfl, .inr ⟨rfl, by dsimp only; omega⟩⟩
  | @step i tl s h =>
    intro hi
    rw [onF_step h]
    exact ⟨rfl, .inl ⟨rfl, (List.getElem?_eq_some_iff.1 h).1⟩⟩
  | @act i tl s c z h hc hz ih =>
    intro hi
    have hlt := (List.getElem?_eq_some_iff.1 h).1
    have e : ops.length - i = (ops.length - (i + 1)) + 1 := by omega
    rw [e, onF_act h hc]
    exact ih hlt
structure RPR (ts : List (List Int)) (x : RS RSt RL) (a : RA) : Prop where
  len : x.1.length = ts.length
  told : x.2.1.told = a.told
  th : ∀ t, t < ts.length → (∃ m, x.1[t]? = some (some (m, ⟨t, a.at_ t, a.tl t⟩)) ∧ a.at_ t < (opsOf ts t).length) ∨ (x.1[t]? = some none ∧ ¬ a.at_ t < (opsOf ts t).length)
theorem run_sim {bb : Nat} {K : Nat → Obj → Prop} {L : List RT} {ts : List (List Int)} (hL : ∀ t, opsR L t = opsOf ts t) : Sim (runD bb K L) (runG ts) (RPR ts) := by
  refine ⟨fun x a h => h.len, fun x a h t ht => ?_, fun x a x' t h ht ha hp => ?_, fun x a h => ⟨h.len, h.told, h.th⟩⟩
  · rcases h.th t ht with ⟨m, e1, e2⟩ | ⟨e1, e2⟩
    · rw [e1]; exact (decide_eq_true e2).symm
    · rw [e1]; exact (decide_eq_false e2).symm
  · have ht : t < ts.length := ht
    rcases h.th t ht with ⟨m, e1, e2⟩ | ⟨e1, e2⟩
    · unfold PickR at hp
      rw [e1] at hp
      obtain ⟨n', s', o, hm, had, rfl⟩ := hp
      have had : AdvR (opsR L t) t (x.2.2 + 1) (a.at_ t + 1) (IntKind.i64.wrap ((a.tl t).1 + 1), (a.tl t).2.1, (a.tl t).2.2) ⟨x.2.1.told, upd x.2.1.cnt t (a.at_ t + 1)⟩ (s', o) := had
      rw [hL] at had
      obtain ⟨p1, p2⟩ := advR_on had (by omega)
      dsimp only at p1 p2
      rw [h.told] at p1 p2
      have htl : t < x.1.length := by rw [h.len]; exact ht
      have hset : ∀ (y : Option (Nat × RL)) t', (x.1.set t y)[t']? = if t' = t then some y else x.1[t']? := fun y t' => by
        by_cases e : t' = t
        · subst e
          rw [if_pos rfl, List.getElem?_set_self htl]
        · rw [if_neg e, List.getElem?_set_ne (Ne.symm e)]
      refine ⟨by simp [h.len], p1, fun t' ht' => ?_⟩
      dsimp only
      rw [hset]
      by_cases e : t' = t
      · subst e
        rw [if_pos rfl]
        have ea : ((runG ts).pick a t' (x.2.2 + 1)).at_ t' = _ := upd_same ..
        have et : ((runG ts).pick a t' (x.2.2 + 1)).tl t' = _ := upd_same ..
        rw [ea, et]
        rcases p2 with ⟨q1, q2⟩ | ⟨q1, q2⟩
        · rw [q1]
          exact .inl ⟨n', rfl, q2⟩
        · rw [q1]
          exact .inr ⟨rfl, by rw [q2]; omega⟩
      · rw [if_neg e]
        have ea : ((runG ts).pick a t (x.2.2 + 1)).at_ t' = a.at_ t' := upd_ne _ _ e
        have et : ((runG ts).pick a t (x.2.2 + 1)).tl t' = a.tl t' := upd_ne _ _ e
        rw [ea, et]
        exact h.th t' ht'
    · rw [e1] at ha; cases ha
def runBs (L : List RT) (V : Nat → Value) (l : List Nat) : List (Body RSt RL) := l.map fun i => ⟨V i, (opsR L i).length, AdvR (opsR L i) i 0 0 (0, 0, 0)⟩
theorem run_startR {L : List RT} {ts : List (List Int)} {V : Nat → Value} (hL : ∀ t, opsR L t = opsOf ts t) : ∀ (m i : Nat) (x x0 : List (Option (Nat × RL)) × RSt), i + m = ts.length → StartR (runBs L V (List.range' i m)) x x0 → x.1.length = i → x.2.told = (ra0 ts i).told →
    (∀ t, t < i → (∃ m, x.1[t]? = some (some (m, ⟨t, (ra0 ts i).at_ t, (ra0 ts i).tl t⟩)) ∧ (ra0 ts i).at_ t < (opsOf ts t).length) ∨ (x.1[t]? = some none ∧ ¬ (ra0 ts i).at_ t < (opsOf ts t).length)) → RPR ts (x0.1, x0.2, 0) (ra0 ts ts.length)
  | 0, i, x, x0, hi, h, h1, h2, h4 => by
    cases h
    have e : i = ts.length := by omega
    subst e
    exact ⟨h1, h2, h4⟩
  | m + 1, i, x, x0, hi, h, h1, h2, h4 => by
    unfold runBs at h
    rw [List.range'_succ, List.map_cons] at h
    cases h with
    | @cons _ _ _ s' o _ hs ht =>
      dsimp only at hs ht
      rw [hL] at hs ht
      obtain ⟨p1, p2⟩ := advR_on hs (Nat.zero_le _)
      dsimp only at p1 p2
      rw [h2] at p1 p2
      have hget : ∀ (y : Option (Nat × RL)) t, t < i + 1 → (x.1 ++ [y])[t]? = if t = i then some y else x.1[t]? := fun y t ht => by
        by_cases e : t = i
        · subst e
          rw [if_pos rfl, ← h1, List.getElem?_append_right (Nat.le_refl _)]
          simp
        · rw [if_neg e, List.getElem?_append_left (by omega)]
      refine run_startR hL m (i + 1) _ x0 (by omega) ht (by simp [h1]) (by rw [ra0_succ]; exact p1) (fun t hl => ?_)
      dsimp only
      rw [hget _ t hl, ra0_succ]
      by_cases e : t = i
      · subst e
        rw [if_pos rfl]
        have ea : (startRA ts (ra0 ts t) t).at_ t = _ := upd_same ..
        have et : (startRA ts (ra0 ts t) t).tl t = _ := upd_same ..
        rw [ea, et]
        rcases p2 with ⟨q1, q2⟩ | ⟨q1, q2⟩
        · rw [q1]
          exact .inl ⟨_, rfl, q2⟩
        · rw [q1]
          exact .inr ⟨rfl, by rw [q2]; omega⟩
      · rw [if_neg e]
        have ea : (startRA ts (ra0 ts i) i).at_ t = (ra0 ts i).at_ t := upd_ne _ _ e
        have et : (startRA ts (ra0 ts i) i).tl t = (ra0 ts i).tl t := upd_ne _ _ e
        rw [ea, et]
        exact h4 t (by omega)
theorem run_game {bb : Nat} {K : Nat → Obj → Prop} {L : List RT} {ts : List (List Int)} {V : Nat → Value} {picks : List Int} {drain : Bool} {z : RSt × Int} (hL : ∀ t, opsR L t = opsOf ts t) (hz : RunR (runD bb K L) (runBs L V (List.range ts.length)) picks drain ⟨[], fun _ => 0⟩ z) :
    ∃ a', (runG ts).Run picks drain (ra0 ts ts.length) (a', z.2) ∧ z.1.told = a'.told := by
  have hbl : (runBs L V (List.range ts.length)).length = (runG ts).n := by simp [runBs, runG]
  have p1 : ∀ x0, StartR (runBs L V (List.range ts.length)) ([], ⟨[], fun _ => 0⟩) x0 → RPR ts (x0.1, x0.2, 0) (ra0 ts ts.length) := fun x0 hx0 => by
    rw [List.range_eq_range'] at hx0
    exact run_startR hL ts.length 0 _ x0 (by omega) hx0 rfl rfl (fun t ht => absurd ht (Nat.not_lt_zero _))
  have p2 : (runBs L V (List.range ts.length)).length = 0 → RPR ts ([], ⟨[], fun _ => 0⟩, 0) (ra0 ts ts.length) := fun h0 => by
    have e : ts.length = 0 := by rw [hbl] at h0; exact h0
    refine ⟨by dsimp only [List.length_nil]; omega, ?_, fun t ht => absurd ht (by omega)⟩
    rw [e]; rfl
  obtain ⟨a', st, hr, hg⟩ := Sim.run (R := RPR ts) (run_sim hL) hz hbl (ra0 ts ts.length) p1 p2
  exact ⟨a', hg, hr.told⟩
structure TldV (E : Env) (w : World) (v : Value) (ms : List Tld) : Prop where
  row : w.ownsRow 0 117 5 v ms.length (tldsV ms)
  H : ∀ g, v.ownBlock = some g → E.H g = none
theorem TldV.stands {E E' : Env} {w w' : World} {v : Value} {ms : List Tld} (h : TldV E w v ms) (S : Stands E w E' w') : TldV E' w' v ms := by
  have k : ∀ g, v.ownBlock = some g → E'.H g = none ∧ w'.heap[g]? = w.heap[g]? := fun g hg => by
    have hl := (h.row.lt g hg).2
    obtain ⟨a1, a2⟩ := S g _ (h.H g hg) (Array.getElem?_eq_getElem hl)
    exact ⟨a1, by rw [a2, Array.getElem?_eq_getElem hl]⟩
  exact ⟨ownsRow_same h.row fun g hg => (k g hg).2, fun g hg => (k g hg).1⟩
theorem TldV.but {S : Nat → Prop} {E E' : Env} {w w' : World} {v : Value} {ms : List Tld} (h : TldV E w v ms) (hS : StandsBut S E w E' w') (hd : ∀ g, v.ownBlock = some g → ¬ S g) : TldV E' w' v ms := by
  have k : ∀ g, v.ownBlock = some g → E'.H g = none ∧ w'.heap[g]? = w.heap[g]? := fun g hg => by
    have hl := (h.row.lt g hg).2
    obtain ⟨a1, a2⟩ := hS g _ (hd g hg) (h.H g hg) (Array.getElem?_eq_getElem hl)
    exact ⟨a1, by rw [a2, Array.getElem?_eq_getElem hl]⟩
  exact ⟨ownsRow_same h.row fun g hg => (k g hg).2, fun g hg => (k g hg).1⟩
theorem TldV.toX {E : Env} {w x : World} {v : Value} {ms : List Tld} (h : TldV E w v ms) (hx : ∀ b, E.H b = none → x.heap[b]? = w.heap[b]?) : x.ownsRow 0 117 5 v ms.length (tldsV ms) := ownsRow_same h.row fun g hg => hx g (h.H g hg)
theorem TldV.of_new {E E1 : Env} {x' w' : World} {B : Nat} {v : Value} {ms : List Tld} (h : x'.ownsRow B 117 5 v ms.length (tldsV ms)) (hn : ∀ b, B ≤ b → E.H b = none) (hv : ∀ b, E.H b = none → w'.heap[b]? = x'.heap[b]?) (hH : E1.H = E.H) : TldV E1 w' v ms :=
  ⟨ownsRow_dn (ownsRow_same h fun g hg => hv g (hn g (h.lt g hg).1)) (Nat.zero_le _), fun g hg => by rw [hH]; exact hn g (h.lt g hg).1⟩
structure IntssL (E : Env) (w : World) (ta : Option Addr) (ba bo : Nat) (LA : Nat → Option Addr) (LC : Nat → Nat) (ts : List (List Int)) : Prop where
  ta : 0 < ts.length → ta = some ⟨ba, bo, none⟩
  row : ∀ i l, ts[i]? = some l → w.cell? ⟨ba, bo + i, none⟩ = some (.slice (LA i) l.length (LC i)) ∧ E.H ba = none
  ops : ∀ i l, ts[i]? = some l → l ≠ [] → ∃ la lo, LA i = some ⟨la, lo, none⟩ ∧ E.H la = none ∧ ∀ j c, l[j]? = some c → w.cell? ⟨la, lo + j, none⟩ = some (.int .i64 c)
theorem IntssL.stands {E E' : Env} {w w' : World} {ta : Option Addr} {ba bo : Nat} {LA : Nat → Option Addr} {LC : Nat → Nat} {ts : List (List Int)} (h : IntssL E w ta ba bo LA LC ts) (S : Stands E w E' w') : IntssL E' w' ta ba bo LA LC ts := by
  refine ⟨h.ta, fun i l hi => S.cell (h.row i l hi).1 (h.row i l hi).2, fun i l hi hne => ?_⟩
  obtain ⟨la, lo, e1, e2, e3⟩ := h.ops i l hi hne
  cases l with
  | nil => exact absurd rfl hne
  | cons c r => exact ⟨la, lo, e1, (S.cell (e3 0 c rfl) e2).2, fun j d hj => (S.cell (e3 j d hj) e2).1⟩
theorem IntssL.toX {E : Env} {w x : World} {ta : Option Addr} {ba bo : Nat} {LA : Nat → Option Addr} {LC : Nat → Nat} {ts : List (List Int)} (h : IntssL E w ta ba bo LA LC ts) (hx : ∀ b, E.H b = none → x.heap[b]? = w.heap[b]?) : IntsTX x ta ba bo LA LC ts := by
  refine ⟨h.ta, fun i l hi => ?_, fun i l hi hne => ?_⟩
  · obtain ⟨q1, q2⟩ := h.row i l hi
    exact (World.cell?_of_block (a := ⟨ba, bo + i, none⟩) (hx ba q2)).trans q1
  · obtain ⟨la, lo, e1, e2, e3⟩ := h.ops i l hi hne
    exact ⟨la, lo, e1, fun j c hj => (World.cell?_of_block (a := ⟨la, lo + j, none⟩) (hx la e2)).trans (e3 j c hj)⟩
theorem IntssL.lt {E : Env} {w : World} {ta : Option Addr} {ba bo : Nat} {LA : Nat → Option Addr} {LC : Nat → Nat} {ts : List (List Int)} (h : IntssL E w ta ba bo LA LC ts) {i : Nat} {l : List Int} (hi : ts[i]? = some l) : ba < w.heap.size := World.block_lt_of_cell? w _ (h.row i l hi).1
def rtOf (LA : Nat → Option Addr) (LC : Nat → Nat) (ts : List (List Int)) : List RT := (List.range ts.length).map fun i => ⟨((LA i).map (·.block)).getD 0, ((LA i).map (·.off)).getD 0, LA i, LC i, ts.getD i []⟩
theorem rtOf_len (LA : Nat → Option Addr) (LC : Nat → Nat) (ts : List (List Int)) : (rtOf LA LC ts).length = ts.length := by simp [rtOf]
theorem rtOf_get {LA : Nat → Option Addr} {LC : Nat → Nat} {ts : List (List Int)} {i : Nat} (hi : i < ts.length) : (rtOf LA LC ts)[i]? = some ⟨((LA i).map (·.block)).getD 0, ((LA i).map (·.off)).getD 0, LA i, LC i, ts.getD i []⟩ := by
  unfold rtOf
  rw [List.getElem?_map, List.getElem?_range hi]
  rfl
theorem rtOf_ops (LA : Nat → Option Addr) (LC : Nat → Nat) (ts : List (List Int)) (t : Nat) : opsR (rtOf LA LC ts) t = opsOf ts t := by
  unfold opsR opsOf
  by_cases h : t < ts.length
  · rw [rtOf_get h]
    simp [List.getD]
  · rw [List.getElem?_eq_none (by rw [rtOf_len]; omega), List.getElem?_eq_none (by omega)]
    rfl
theorem ops_lens {ts : List (List Int)} {N : Nat} (hl : ∀ l ∈ ts, l.length ≤ N) (t : Nat) : (opsOf ts t).length ≤ N := by
  unfold opsOf
  cases e : ts[t]? with
  | none => exact Nat.zero_le _
  | some l => exact hl l (List.mem_of_getElem? e)
theorem ops_sum {ts : List (List Int)} {N : Nat} (hl : ∀ l ∈ ts, l.length ≤ N) (hn : ts.length ≤ 8) : sumTo ts.length (fun t => (opsOf ts t).length) ≤ 8 * N := by
  have h1 := sumTo_bound (f := fun t => (opsOf ts t).length) (B := N) ts.length (fun i _ => ops_lens hl i)
  have h2 : ts.length * N ≤ 8 * N := Nat.mul_le_mul_right _ hn
  omega
section
variable {h : Nat} {F : Machine → Trace → Prop} {E : Env} {w : World} {b₀ : Frame} {a₀ : Act} {ops₀ : Array Oper} {i₀ : Nat} {rest₀ : List Nat} {k₀ : List Item} {cl : List Frame}
set_option maxHeartbeats 1000000 in
theorem run_bodies {ts : List (List Int)} {picks : List Int} {drain : Bool} {tv v : Value} {ta : Option Addr} {ba bo cap B tbx bbx bb pb pcap : Nat} {LA : Nat → Option Addr} {LC TB : Nat → Nat} {z : RA × Int} (htv : tv = .slice ta ts.length cap) (hT : IntssL E w ta ba bo LA LC ts) (hmd : MadeR E w B tbx bbx bb tv ts.length LA TB v) (hB : bb < B)
    (hlo : ∀ i l, ts[i]? = some l → ba ≠ bb ∧ (l ≠ [] → ∀ a, LA i = some a → a.block ≠ bb)) (hbb : w.heap[bb]? = some (.cells #[.slice none 0 0] 63)) (hbbH : E.H bb = none) (hpb : pb ≠ bb) (hP : ∀ i p, picks[i]? = some p → w.cell? ⟨pb, i, none⟩ = some (.int .i64 p) ∧ E.H pb = none)
    (hl : ∀ l ∈ ts, l.length ≤ 100000000000) (hnp : picks.length ≤ 1000000000000000) (hp64 : ∀ p ∈ picks, -9223372036854775808 ≤ p ∧ p ≤ 9223372036854775807) (hz : (runG ts).Run picks drain (ra0 ts ts.length) z) (hrole : E.role h = .gone) (hmode : ∀ b, E.mode b = 0)
    (hc : ∀ E' w' mv, Kept h none E w E' w' → StandsBut (fun b => b = bb) E w E' w' → w'.heap[bb]? = some (.cells #[mv] 63) → E'.H bb = none → TldV E' w' mv (rTl ts z) → HG Try.prog h F E' (G (b₀.at (a₀.put ((ops₀[i₀]?).bind (·.dst)) (.int .i64 (rK ts z))) (.inRegion ops₀ rest₀ :: k₀)) cl) w') :
    HG Try.prog h F E (entry 29 Try.f29 #[v, .slice (some ⟨pb, 0, none⟩) picks.length pcap, .bool drain] (b₀.at a₀ (.inRegion ops₀ (i₀ :: rest₀) :: k₀) :: cl)) w := by
  obtain ⟨aa, bcap, rfl, hvf⟩ := owns_form hmd.row
  by_cases h8 : 8 < ts.length
  · refine run_many h8 ?_
    have e1 : rK ts z = 0 := by unfold rK; rw [if_pos h8]
    have e2 : rTl ts z = [] := by unfold rTl; rw [if_pos h8]
    rw [e1] at hc
    exact hc E w _ (Kept.refl _ _ _ _) (fun b o _ h1 h2 => ⟨h1, h2⟩) hbb hbbH ⟨by rw [e2]; exact ⟨by simp [tldsV], .inl ⟨rfl, rfl⟩⟩, fun g e => by cases e⟩
  · have hN8 : ts.length ≤ 8 := by omega
    have e1 : rK ts z = z.2 := by unfold rK; rw [if_neg h8]
    have e2 : rTl ts z = z.1.told := by unfold rTl; rw [if_neg h8]
    obtain ⟨L, hL⟩ : ∃ L, L = rtOf LA LC ts := ⟨_, rfl⟩
    obtain ⟨K, hKe⟩ : ∃ K : Nat → Obj → Prop, K = fun b o => w.heap[b]? = some o ∧ E.H b = none ∧ b ≠ bb := ⟨_, rfl⟩
    have kc : ∀ {a : Addr} {v : Value}, w.cell? a = some v → E.H a.block = none → a.block ≠ bb → KC K a v := fun h1 h2 h3 => by rw [hKe]; exact kc_of h1 h2 h3
    have hops : ∀ t, opsR L t = opsOf ts t := fun t => by rw [hL]; exact rtOf_ops _ _ _ _
    have hget : ∀ i, i < ts.length → ts[i]? = some (ts.getD i []) := fun i hi => by simp [List.getD, List.getElem?_eq_getElem hi]
    have hbound : sumTo L.length (fun t => (opsR L t).length) ≤ 1000000000000 := by
      rw [hL, rtOf_len]
      have e : (fun t => (opsR (rtOf LA LC ts) t).length) = fun t => (opsOf ts t).length := funext fun t => by rw [rtOf_ops]
      rw [e]
      have := ops_sum hl hN8
      omega
    have hRT : ∀ i, i < ts.length → ∀ a, LA i = some a → RTok K L bb tbx (TB i) bbx ba bo ts.length cap i ⟨a.block, a.off, LA i, LC i, ts.getD i []⟩ := fun i hi a ha => by
      obtain ⟨q1, q2⟩ := hT.row i _ (hget i hi)
      obtain ⟨p1, p2⟩ := hlo i _ (hget i hi)
      have hta := hT.ta (by omega)
      subst hta
      refine ⟨by rw [hL, rtOf_get hi, ha]; rfl, ?_, kc (hmd.box i hi).1 (hmd.box i hi).2.1 (by have := (hmd.box i hi).2.2; dsimp only; omega), kc hmd.cb hmd.cbH (by have := hmd.le.2; dsimp only; omega), kc q1 q2 p1, fun j c hj => ?_, ?_, hi⟩
      · have := kc hmd.cx hmd.cxH (by have := hmd.le.1; dsimp only; omega)
        rwa [htv] at this
      · have hj' : (ts.getD i [])[j]? = some c := hj
        have hne : ts.getD i [] ≠ [] := fun e => by rw [e] at hj'; cases hj'
        obtain ⟨la, lo, r1, r2, r3⟩ := hT.ops i _ (hget i hi) hne
        rw [ha] at r1
        obtain rfl := Option.some.inj r1
        exact ⟨ha, kc (r3 j c hj') r2 (p2 hne ⟨la, lo, none⟩ ha)⟩
      · have := hl _ (List.mem_of_getElem? (hget i hi))
        dsimp only
        omega
    obtain ⟨V, hV⟩ : ∃ V, V = bodyV LA TB tbx bbx := ⟨_, rfl⟩
    obtain ⟨bs, hbs⟩ : ∃ bs, bs = runBs L V (List.range ts.length) := ⟨_, rfl⟩
    have hbl : bs.length = ts.length := by rw [hbs]; simp [runBs]
    have hbg : ∀ i b, bs[i]? = some b → i < ts.length ∧ b = ⟨V i, (opsR L i).length, AdvR (opsR L i) i 0 0 (0, 0, 0)⟩ := fun i b e => by
      have hi : i < ts.length := by rw [← hbl]; exact (List.getElem?_eq_some_iff.1 e).1
      refine ⟨hi, ?_⟩
      rw [hbs] at e
      unfold runBs at e
      rw [List.getElem?_map, List.getElem?_range hi] at e
      exact (Option.some.inj e).symm
    have hM : RunM bb K L ⟨[], fun _ => 0⟩ E w := by
      refine ⟨hbbH, fun b o hk => by rw [hKe] at hk; exact hk, ⟨.slice none 0 0, hbb, ⟨by simp [tldsV], .inl ⟨rfl, rfl⟩⟩, fun g e => (by cases e)⟩, Nat.zero_le _, fun t => Nat.zero_le _⟩
    rw [← hbl]
    refine run_holds (D := runD bb K L) (s := ⟨[], fun _ => 0⟩) (bs := bs) (picks := picks) (drain := drain) (ba := (aa.map (·.block)).getD 0) (bo := 0) (pb := pb) (po := 0) (by rw [hbl]; exact hN8) hnp (fun b hb => ?_) (fun hne => ?_) (fun _ => rfl) hp64 (fun s E' w' m i b hi => ?_) (fun s E' w' m i p hi => ?_) (fun i b hi => ?_) (fun i b hi => ?_) (fun _ _ => rfl) hrole hmode hM (fun z' E' w' hz' kk m => ?_)
    · obtain ⟨i, hi⟩ := List.mem_iff_getElem?.1 hb
      obtain ⟨hi', rfl⟩ := hbg i b hi
      have := ops_lens hl i
      dsimp only
      rw [hops]
      omega
    · have : 0 < ts.length := by rw [← hbl]; exact List.length_pos_iff.2 hne
      obtain ⟨g, rfl, _⟩ := hvf this
      rfl
    · obtain ⟨hi', rfl⟩ := hbg i b hi
      obtain ⟨g, rfl, hg1, hg2⟩ := hvf (by omega)
      have h1 := hg2 i (V i) (by rw [List.getElem?_map, List.getElem?_range hi', hV]; rfl)
      have m' : RunM bb K L s E' w' := m
      obtain ⟨k1, k2, _⟩ := m'.konst _ _ (kc h1 (hmd.rowH g rfl) (by dsimp only; omega))
      exact ⟨k1, k2⟩
    · have m' : RunM bb K L s E' w' := m
      obtain ⟨q1, q2⟩ := hP i p hi
      rw [Nat.zero_add]
      obtain ⟨k1, k2, _⟩ := m'.konst _ _ (kc q1 q2 hpb)
      exact ⟨k1, k2⟩
    · obtain ⟨hi', rfl⟩ := hbg i b hi
      dsimp only
      cases hla : LA i with
      | none =>
        have eV : V i = .nilFunc := by rw [hV]; unfold bodyV; rw [hla]; rfl
        have e0 : opsR L i = [] := by
          rw [hops, opsOf_get (hget i hi')]
          by_cases hne : ts.getD i [] = []
          · exact hne
          · obtain ⟨la, lo, r1, _⟩ := hT.ops i _ (hget i hi') hne
            rw [hla] at r1; cases r1
        rw [eV, e0]
        exact bornV_nil fun s => AdvR.stop (Nat.zero_le _)
      | some a =>
        have eV : V i = .func (.func 78) #[] #[.pointer (some ⟨tbx, 0, none⟩), .pointer (some ⟨TB i, 0, none⟩), .pointer (some ⟨bbx, 0, none⟩)] := by rw [hV]; unfold bodyV; rw [hla]; rfl
        have P := hRT i hi' a hla
        rw [eV]
        have := rn_born P hbound
        rw [← P.o] at this
        exact bornV_clo (fb := 78) (fn := Try.f78) Try.func78 rfl rfl this
    · obtain ⟨hi', rfl⟩ := hbg i b hi
      exact run_startOk i
    · have m' : RunM bb K L z'.1 E' w' := m
      obtain ⟨mv, r1, r2, r3⟩ := m'.row
      rw [hbs] at hz'
      obtain ⟨a', hg, ht⟩ := run_game hops hz'
      have hdet := Game.Run.det hg hz
      subst hdet
      dsimp only at e1 e2
      rw [e1] at hc
      refine hc E' w' mv kk (fun b o h0 h1 h2 => ?_) r1 m'.bbH ?_
      · obtain ⟨k1, k2, _⟩ := m'.kobj b o (by rw [hKe]; exact ⟨h2, h1, h0⟩)
        exact ⟨k2, k1⟩
      · rw [e2, ← ht]
        exact ⟨ownsRow_dn r2 (Nat.zero_le _), fun g hg => (r3 g hg).1⟩
end
set_option maxRecDepth 100000 in
set_option maxHeartbeats 4000000 in
theorem rS6_wp {f : Nat → Value} {x : World} {Q : Exit → Act → World → Prop}
    (hQ : ∀ T', T'.size = 62 → (∀ j, j < 16 → j ≠ 11 → T'[j]? = some (f j)) → T'[11]? = some (.pointer (some ⟨x.heap.size, 0, none⟩)) → Q .normal ⟨T', []⟩ (x.alloc (.cells #[.slice none 0 0] 63))) : rS6.wp Try.prog Q ⟨(List.map f (List.range 62)).toArray, []⟩ x := by
  simp only [List.range, List.range.loop, List.map_cons, List.map_nil]
  simp only [rS6, rBl, rL, rT3, rT2, rB0, Try.f7, Option.getD_some]
  go_wp2_with fail
  exact hQ _ (by simp) (fun j hj h9 => by
    match j, hj with
    | 0, _ | 1, _ | 2, _ | 3, _ | 4, _ | 5, _ | 6, _ | 7, _ | 8, _ | 9, _ | 10, _ | 12, _ | 13, _ | 14, _ | 15, _ => simp
    | 11, _ => exact absurd rfl h9
    | j + 16, h => exact absurd h (by omega)) (by simp)
section
variable {h : Nat} {F : Machine → Trace → Prop} {E : Env} {w : World} {fr : Frame} {k : List Item} {cs : List Frame}
theorem HG.fstep {Fs : FuncId → Bool} (hC : Closed Try.prog Fs) {c : Code} (hq : quietCode Try.prog Fs c = true) {T : Array Value} (hk : fr.kind = .normal) {R : Array Value → World → World → Prop}
    (hwp : ∀ x : World, x.heap.size = w.heap.size → (∀ b, E.H b = none → x.heap[b]? = w.heap[b]?) → c.wp Try.prog (fun e a' x' => e = .normal ∧ a'.defers = [] ∧ (∀ b, b < x.heap.size → x'.heap[b]? = x.heap[b]?) ∧ R a'.tmps x x') ⟨T, []⟩ x)
    (hc : ∀ (E1 : Env) (w1 : World) (T' : Array Value) (x x' : World), Kept h none E w E1 w1 → E1.H = E.H → x.heap.size = w.heap.size → (∀ b, E.H b = none → x.heap[b]? = w.heap[b]?) → (∀ b, E.H b = none → w1.heap[b]? = x'.heap[b]?) → (∀ b, w.heap.size ≤ b → E.H b = none) → Stands E w E1 w1 → R T' x x' → HG Try.prog h F E1 (G (fr.at ⟨T', []⟩ k) cs) w1) :
    HG Try.prog h F E (G (fr.at ⟨T, []⟩ (.code c :: k)) cs) w := by
  refine HG.quietS (h := h) (fun _ => False) (fun _ z => z.elim) hC (Q := fun a' x x' => R a'.tmps x x') hq hk rfl (fun x h1 h2 => Code.wp_mono (fun e a y hh => ⟨hh.1, hh.2.1, fun b hb _ => hh.2.2.1 b hb, hh.2.2.2⟩) (hwp x h1 h2)) (fun E1 w1 a1 x x' hE hd hxs hx hs' hx' hK hB hSo hR => ?_)
  obtain ⟨T', df⟩ := a1
  have hd' : df = [] := hd
  subst hd'
  refine hc E1 w1 T' x x' hK hE.H' hxs hx hx' hB (fun b o h1 h2 => ⟨by rw [hE.H']; exact h1, ?_⟩) hR
  have hl := (Array.getElem?_eq_some_iff.1 h2).1
  rw [hx' b h1, hSo b (by omega) (fun z => z), hx b h1]
  exact h2
theorem rp2 {T : Array Value} {tv pv : Value} {ts : List (List Int)} {picks : List Int} {drain : Bool} {z : RA × Int} {ta : Option Addr} {ba bo cap : Nat} {LA : Nat → Option Addr} {LC : Nat → Nat} (hk : fr.kind = .normal) (hs : T.size = 62) (t0 : T[0]? = some tv) (t1 : T[1]? = some pv) (t2 : T[2]? = some (.bool drain)) (htv : tv = .slice ta ts.length cap) (hT : IntssL E w ta ba bo LA LC ts) (hI : IntsAt E w pv picks)
    (hz : (runG ts).Run picks drain (ra0 ts ts.length) z) (hnp : picks.length ≤ 100000000000) (hll : ∀ l ∈ ts, l.length ≤ 100000000000) (hp64 : ∀ p ∈ picks, -9223372036854775808 ≤ p ∧ p ≤ 9223372036854775807) (hz2 : ts.length ≤ 8 → z.2 ≤ 100000000000000)
    (hc : ∀ E1 w1 T' ov, Kept h none E w E1 w1 → Stands E w E1 w1 → T'.size = 62 → (∀ j, j < 16 → j ≠ 8 → j ≠ 9 → T'[j]? = T[j]?) → T'[8]? = some ov → T'[9]? = some (.int .i64 (rK ts z)) → TldV E1 w1 ov (rTl ts z) → HG Try.prog h F E1 (G (fr.at ⟨T', []⟩ k) cs) w1) :
    HG Try.prog h F E (G (fr.at ⟨T, []⟩ (.code rS2 :: k)) cs) w := by
  obtain ⟨f, hf, fz⟩ := arrfv T hs
  have e0 := fz 0 _ t0
  have e1 := fz 1 _ t1
  have e2 := fz 2 _ t2
  refine HG.fstep closed_rn (by kernel_rfl) hk (R := fun T' x x' => T'.size = 62 ∧ (∀ j, j < 16 → j ≠ 8 → j ≠ 9 → T'[j]? = T[j]?) ∧ T'[9]? = some (.int .i64 (rK ts z)) ∧ ∃ ov, T'[8]? = some ov ∧ x'.ownsRow x.heap.size 117 5 ov (rTl ts z).length (tldsV (rTl ts z))) (fun x hxs hx => ?_) (fun E1 w1 T' x x' hK hH hxs hx hx' hB hSt hR => ?_)
  · have hX := hT.toX hx
    obtain ⟨pa, pb, po, pcap, rfl, hpa, hps⟩ := hI.toX hx
    subst htv
    rw [hf]
    refine rS2_wp e0 e1 e2 (rbodies_any hz hX hpa hps hnp hll (fun h8 => Nat.le_trans (ops_sum hll h8) (by decide)) hp64 hz2) (fun e x' h => by obtain ⟨mv, h, _⟩ := h; exact ⟨mv, _, h⟩) (fun T' x' rv kv h1 h2 h3 h4 h5 => ?_)
    obtain ⟨mv, e, h6, h7⟩ := h5
    simp only [Ending.returned.injEq, Value.tuple.injEq] at e
    have e3 : rv = mv ∧ kv = .int .i64 (rK ts z) := by simpa using e
    obtain ⟨rfl, rfl⟩ := e3
    refine ⟨rfl, rfl, h6, h1, fun j hj hj2 hj3 => ?_, h4, rv, h3, h7⟩
    rw [h2 j hj hj2 hj3]
    simp [show j < 62 by omega]
  · obtain ⟨h1, h2, h3, mv, h4, h5⟩ := hR
    rw [hxs] at h5
    exact hc E1 w1 T' mv hK hSt h1 h2 h4 h3 (TldV.of_new h5 hB hx' hH)
theorem rp6 {T : Array Value} (hk : fr.kind = .normal) (hs : T.size = 62)
    (hc : ∀ E1 w1 T', Kept h none E w E1 w1 → Stands E w E1 w1 → T'.size = 62 → (∀ j, j < 16 → j ≠ 11 → T'[j]? = T[j]?) → T'[11]? = some (.pointer (some ⟨w.heap.size, 0, none⟩)) → w1.heap[w.heap.size]? = some (.cells #[.slice none 0 0] 63) → E1.H w.heap.size = none → HG Try.prog h F E1 (G (fr.at ⟨T', []⟩ k) cs) w1) :
    HG Try.prog h F E (G (fr.at ⟨T, []⟩ (.code rS6 :: k)) cs) w := by
  obtain ⟨f, hf, fz⟩ := arrfv T hs
  refine HG.fstep closed_rn (by kernel_rfl) hk (R := fun T' x x' => T'.size = 62 ∧ (∀ j, j < 16 → j ≠ 11 → T'[j]? = T[j]?) ∧ T'[11]? = some (.pointer (some ⟨x.heap.size, 0, none⟩)) ∧ x'.heap[x.heap.size]? = some (.cells #[.slice none 0 0] 63)) (fun x hxs hx => ?_) (fun E1 w1 T' x x' hK hH hxs hx hx' hB hSt hR => ?_)
  · rw [hf]
    refine rS6_wp (fun T' h1 h2 h3 => ⟨rfl, rfl, fun b hb => alloc_old hb, h1, fun j hj hj2 => ?_, h3, alloc_new⟩)
    rw [h2 j hj hj2]
    simp [show j < 62 by omega]
  · obtain ⟨h1, h2, h3, h4⟩ := hR
    rw [hxs] at h3 h4
    have hb := hB w.heap.size (Nat.le_refl _)
    exact hc E1 w1 T' hK hSt h1 h2 h3 ((hx' _ hb).trans h4) (by rw [hH]; exact hb)
theorem rp7 {T : Array Value} {pv : Value} {ps : List Int} (hk : fr.kind = .normal) (hs : T.size = 62) (t0 : T[1]? = some pv) (hI : IntsAt E w pv ps) (hpl : ps.length ≤ 1000000000000)
    (hc : ∀ E1 w1 T' b, Kept h none E w E1 w1 → Stands E w E1 w1 → T'.size = 62 → (∀ j, j < 16 → j ≠ 12 → T'[j]? = T[j]?) → T'[12]? = some (.slice (some ⟨b, 0, none⟩) ps.length (ps.length + 2)) → PickV E1 w1 b ps → w.heap.size ≤ b → HG Try.prog h F E1 (G (fr.at ⟨T', []⟩ k) cs) w1) :
    HG Try.prog h F E (G (fr.at ⟨T, []⟩ (.code rS7 :: k)) cs) w := by
  obtain ⟨f, hf, fz⟩ := arrfv T hs
  have e0 := fz 1 _ t0
  refine HG.fstep closed_rn (by kernel_rfl) hk (R := fun T' x x' => T'.size = 62 ∧ (∀ j, j < 16 → j ≠ 12 → T'[j]? = T[j]?) ∧ T'[12]? = some (.slice (some ⟨x.heap.size, 0, none⟩) ps.length (ps.length + 2)) ∧ x'.heap[x.heap.size]? = some (.cells (ownI ps).toArray 3)) (fun x hxs hx => ?_) (fun E1 w1 T' x x' hK hH hxs hx hx' hB hSt hR => ?_)
  · rw [hf]
    refine rS7_wp e0 (ints_wp (hI.toX hx) hpl) (fun e x' h => ⟨_, h.1⟩) (fun T' x' rv h1 h2 h3 h4 => ?_)
    obtain ⟨e, h5, h6⟩ := h4
    cases e
    refine ⟨rfl, rfl, fun b hb => h5.block b hb, h1, fun j hj hj2 => ?_, h3, h6⟩
    rw [h2 j hj hj2]
    simp [show j < 62 by omega]
  · obtain ⟨h1, h2, h3, h4⟩ := hR
    have hb := hB x.heap.size (by omega)
    exact hc E1 w1 T' _ hK hSt h1 h2 h3 ⟨(hx' _ hb).trans h4, by rw [hH]; exact hb⟩ (by omega)
theorem rp9 {T : Array Value} {bb : Nat} {mv ov : Value} {ms : List Tld} (hk : fr.kind = .normal) (hs : T.size = 62) (t0 : T[11]? = some (.pointer (some ⟨bb, 0, none⟩))) (t1 : T[8]? = some ov) (hbb : w.heap[bb]? = some (.cells #[mv] 63)) (hbH : E.H bb = none) (ha : TldV E w mv ms) (hb : TldV E w ov ms) (hml : ms.length ≤ 1000000000000)
    (hc : ∀ E1 w1 T', Kept h none E w E1 w1 → Stands E w E1 w1 → T'.size = 62 → (∀ j, j < 16 → j ≠ 14 → T'[j]? = T[j]?) → T'[14]? = some (.bool true) → HG Try.prog h F E1 (G (fr.at ⟨T', []⟩ k) cs) w1) :
    HG Try.prog h F E (G (fr.at ⟨T, []⟩ (.code rS9 :: k)) cs) w := by
  obtain ⟨f, hf, fz⟩ := arrfv T hs
  have e0 := fz 11 _ t0
  have e1 := fz 8 _ t1
  refine HG.fstep closed_rn (by kernel_rfl) hk (R := fun T' x x' => T'.size = 62 ∧ (∀ j, j < 16 → j ≠ 14 → T'[j]? = T[j]?) ∧ T'[14]? = some (.bool true)) (fun x hxs hx => ?_) (fun E1 w1 T' x x' hK hH hxs hx hx' hB hSt hR => ?_)
  · rw [hf]
    have hcx : x.cell? ⟨bb, 0, none⟩ = some mv := obj_cell ((hx bb hbH).trans hbb) rfl
    refine rS9_wp e0 e1 hcx (told_same (TldAt.of_owns (ha.toX hx)) (TldAt.of_owns (hb.toX hx)) hml) (fun e x' h => ⟨_, h.1⟩) (fun T' x' rv h1 h2 h3 h4 => ?_)
    obtain ⟨e, n, rfl⟩ := h4
    cases e
    refine ⟨rfl, rfl, fun b hb => rfl, h1, fun j hj hj2 => ?_, h3⟩
    rw [h2 j hj hj2]
    simp [show j < 62 by omega]
  · obtain ⟨h1, h2, h3⟩ := hR
    exact hc E1 w1 T' hK hSt h1 h2 h3
theorem rp10 {T : Array Value} {v1 : Value} {b : Nat} {ps : List Int} (hk : fr.kind = .normal) (hs : T.size = 62) (t0 : T[12]? = some (.slice (some ⟨b, 0, none⟩) ps.length (ps.length + 2))) (t1 : T[1]? = some v1) (hP : PickV E w b ps) (hI : IntsAt E w v1 ps) (hpl : ps.length ≤ 1000000000000)
    (hc : ∀ E1 w1 T', Kept h none E w E1 w1 → Stands E w E1 w1 → T'.size = 62 → (∀ j, j < 16 → j ≠ 15 → T'[j]? = T[j]?) → T'[15]? = some (.bool true) → HG Try.prog h F E1 (G (fr.at ⟨T', []⟩ k) cs) w1) :
    HG Try.prog h F E (G (fr.at ⟨T, []⟩ (.code rS10 :: k)) cs) w := by
  obtain ⟨f, hf, fz⟩ := arrfv T hs
  have e0 := fz 12 _ t0
  have e1 := fz 1 _ t1
  refine HG.fstep closed_rn (by kernel_rfl) hk (R := fun T' x x' => T'.size = 62 ∧ (∀ j, j < 16 → j ≠ 15 → T'[j]? = T[j]?) ∧ T'[15]? = some (.bool true)) (fun x hxs hx => ?_) (fun E1 w1 T' x x' hK hH hxs hx hx' hB hSt hR => ?_)
  · rw [hf]
    refine rS10_wp e0 e1 (kept_wp (hI.toX hx) ((hx b hP.H).trans hP.row) hpl) (fun e x' h => ⟨_, h.1⟩) (fun T' x' rv h1 h2 h3 h4 => ?_)
    obtain ⟨e, n, rfl⟩ := h4
    cases e
    refine ⟨rfl, rfl, fun b hb => rfl, h1, fun j hj hj2 => ?_, h3⟩
    rw [h2 j hj hj2]
    simp [show j < 62 by omega]
  · obtain ⟨h1, h2, h3⟩ := hR
    exact hc E1 w1 T' hK hSt h1 h2 h3
theorem rp11 {T : Array Value} {n : Int} (hk : fr.kind = .normal) (hs : T.size = 62) (t7 : T[7]? = some (.bool true)) (t13 : T[13]? = some (.int .i64 n)) (t9 : T[9]? = some (.int .i64 n)) (t14 : T[14]? = some (.bool true)) (t15 : T[15]? = some (.bool true))
    (hc : ∀ E1 w1 T', Kept h none E w E1 w1 → Stands E w E1 w1 → T'.size = 62 → (∀ j, j < 16 → T'[j]? = T[j]?) → T'[61]? = some (.bool false) → HG Try.prog h F E1 (G (fr.at ⟨T', []⟩ k) cs) w1) :
    HG Try.prog h F E (G (fr.at ⟨T, []⟩ (.code rS11 :: k)) cs) w := by
  obtain ⟨f, hf, fz⟩ := arrfv T hs
  refine HG.fstep closed_rn (by kernel_rfl) hk (R := fun T' x x' => T'.size = 62 ∧ (∀ j, j < 16 → T'[j]? = T[j]?) ∧ T'[61]? = some (.bool false)) (fun x hxs hx => ?_) (fun E1 w1 T' x x' hK hH hxs hx hx' hB hSt hR => ?_)
  · rw [hf]
    refine rS11_wp (fz 7 _ t7) (fz 13 _ t13) (fz 9 _ t9) (fz 14 _ t14) (fz 15 _ t15) (fun T' h1 h2 h3 => ⟨rfl, rfl, fun b hb => rfl, h1, fun j hj => ?_, h3⟩)
    rw [h2 j hj]
    simp [show j < 62 by omega]
  · obtain ⟨h1, h2, h3⟩ := hR
    exact hc E1 w1 T' hK hSt h1 h2 h3
end
section
variable {F : Machine → Trace → Prop} {E : Env} {w : World} {k : List Item}
noncomputable def xrS8 : Code := rS8
set_option maxRecDepth 100000 in
set_option maxHeartbeats 4000000 in
theorem rp8 {T : Array Value} {tv : Value} {ts : List (List Int)} {picks : List Int} {drain : Bool} {z : RA × Int} {ta : Option Addr} {ba bo cap bb pb : Nat} {LA : Nat → Option Addr} {LC : Nat → Nat} (hs : T.size = 62) (t0 : T[0]? = some tv) (t2 : T[2]? = some (.bool drain)) (t11 : T[11]? = some (.pointer (some ⟨bb, 0, none⟩))) (t12 : T[12]? = some (.slice (some ⟨pb, 0, none⟩) picks.length (picks.length + 2)))
    (htv : tv = .slice ta ts.length cap) (hT : IntssL E w ta ba bo LA LC ts) (hlo : ∀ i l, ts[i]? = some l → ba ≠ bb ∧ (l ≠ [] → ∀ a, LA i = some a → a.block ≠ bb)) (hbb : w.heap[bb]? = some (.cells #[.slice none 0 0] 63)) (hbbH : E.H bb = none) (hpb : pb ≠ bb) (hP : PickV E w pb picks)
    (hn : ts.length ≤ 1000000000000) (hl : ∀ l ∈ ts, l.length ≤ 100000000000) (hnp : picks.length ≤ 1000000000000000) (hp64 : ∀ p ∈ picks, -9223372036854775808 ≤ p ∧ p ≤ 9223372036854775807) (hz : (runG ts).Run picks drain (ra0 ts ts.length) z) (hrole : E.role 0 = .gone) (hmode : ∀ b, E.mode b = 0)
    (hc : ∀ E1 w1 T' mv, Kept 0 none E w E1 w1 → StandsBut (fun b => b = bb) E w E1 w1 → T'.size = 62 → (∀ j, j < 16 → j ≠ 13 → T'[j]? = T[j]?) → T'[13]? = some (.int .i64 (rK ts z)) → w1.heap[bb]? = some (.cells #[mv] 63) → E1.H bb = none → TldV E1 w1 mv (rTl ts z) → HG Try.prog 0 F E1 (G ((base 7).at ⟨T', []⟩ k) []) w1) :
    HG Try.prog 0 F E (G ((base 7).at ⟨T, []⟩ (.code rS8 :: k)) []) w := by
  obtain ⟨f, hf, fz⟩ := arrfv T hs
  have e0 := fz 0 _ t0
  have e2 := fz 2 _ t2
  have e11 := fz 11 _ t11
  have e12 := fz 12 _ t12
  have hbl := (Array.getElem?_eq_some_iff.1 hbb).1
  rw [hf]
  change HGn Try.prog 0 F E w 100 _
  rw [show rS8 = xrS8 from rfl]
  simp only [xrS8, rS8, rBl, rL, rT3, rT2, rB0, Try.f7, Option.getD_some, List.range, List.range.loop, List.map_cons, List.map_nil, e0, e2, e11, e12]
  replace hf := Lib.hid hf
  replace hz := Lib.hid hz
  replace hT := Lib.hid hT
  replace hP := Lib.hid hP
  replace hn := Lib.hid hn
  replace hl := Lib.hid hl
  replace hnp := Lib.hid hnp
  replace hp64 := Lib.hid hp64
  replace hrole := Lib.hid hrole
  replace hmode := Lib.hid hmode
  replace hc := Lib.hid hc
  replace hs := Lib.hid hs
  replace htv := Lib.hid htv
  replace hlo := Lib.hid hlo
  replace hbb := Lib.hid hbb
  replace hbbH := Lib.hid hbbH
  replace hpb := Lib.hid hpb
  replace hbl := Lib.hid hbl
  clear t0 t2 t11 t12 fz
  refine Idl.rg (idl_hg Try.prog 0 F E w) [0, 1, 2, 3, 4, 5, 6] rfl ?_
  iterate 2 (apply Idl.value (idl_hg Try.prog 0 F E w) rfl rfl (by first | decide | exact base_kind _ | exact baseD_kind _ | assumption); (focus (intro w; go_simp; (try w_num); first | done | rfl)); (focus (intro w; simp [go_sem, *])); walk_nrm)
  refine Idl.callE (fn := Try.f39) (vs := #[tv, .pointer (some ⟨bb, 0, none⟩)]) (idl_hg Try.prog 0 F E w) rfl rfl (by k_ne) rfl Try.func39 rfl rfl (by simp [Act.eval]) ?_
  refine bodies_in (ba := ba) (bo := bo) (LA := LA) (LN := fun i => (ts.getD i []).length) (LC := LC) htv.out hT.out.ta hn.out (fun i hi => hT.out.row i _ (by simp [List.getD, List.getElem?_eq_getElem hi])) (fun E1 w1 v TB S1 M1 => ?_)
  replace S1 := Lib.hid S1
  replace M1 := Lib.hid M1
  change HGn Try.prog 0 F E1 w1 200 _
  walk_nrm
  iterate 2 (apply Idl.value (idl_hg Try.prog 0 F E1 w1) rfl rfl (by first | decide | exact base_kind _ | exact baseD_kind _ | assumption); (focus (intro w; go_simp; (try w_num); first | done | rfl)); (focus (intro w; simp [go_sem, *])); walk_nrm)
  refine Idl.callE (fn := Try.f29) (vs := #[v, .slice (some ⟨pb, 0, none⟩) picks.length (picks.length + 2), .bool drain]) (idl_hg Try.prog 0 F E1 w1) rfl rfl (by k_ne) rfl Try.func29 rfl rfl (by simp [Act.eval]) ?_
  have hst : Stands E w E1 w1 := fun b o h1 h2 => S1.out.st b o h1 h2
  have hk1 : Kept 0 none E w E1 w1 := S1.out.kept
  have hb1 := hst bb _ hbbH.out hbb.out
  have hP1 := hP.out.stands hst
  refine run_bodies htv.out (hT.out.stands hst) M1.out hbl.out hlo.out hb1.2 hb1.1 hpb.out (fun i p hi => ?_) hl.out hnp.out hp64.out hz.out (hk1.le.roleH.trans hrole.out) (fun b => hk1.le.mode b (hmode.out b)) (fun E2 w2 mv hK2 hS2 r1 r2 r3 => ?_)
  · obtain ⟨pa', pb', po', pc', q0, q1, q2⟩ := hP1.at.at_
    cases q0
    have hne : picks ≠ [] := fun e => by rw [e] at hi; cases hi
    have := q1 hne
    cases this
    have := q2 i p hi
    rwa [Nat.zero_add] at this
  replace hK2 := Lib.hid hK2
  replace hS2 := Lib.hid hS2
  replace r1 := Lib.hid r1
  replace r2 := Lib.hid r2
  replace r3 := Lib.hid r3
  replace hst := Lib.hid hst
  replace hk1 := Lib.hid hk1
  clear hb1 hP1
  change HGn Try.prog 0 F E2 w2 200 _
  walk_nrm
  apply Idl.value (idl_hg Try.prog 0 F E2 w2) rfl rfl (by first | decide | exact base_kind _ | exact baseD_kind _ | assumption)
  focus (intro w; go_simp; (try w_num); first | done | rfl)
  focus (intro w; simp [go_sem, *])
  walk_nrm
  refine Idl.re (idl_hg Try.prog 0 F E2 w2) ?_
  refine hc.out E2 w2 _ mv (hk1.out.trans hK2.out) (fun b o h0 h1 h2 => ?_) (by simp) (fun j hj hne => ?_) (by simp) r1.out r2.out r3.out
  · obtain ⟨a1, a2⟩ := hst.out b o h1 h2
    exact hS2.out b o h0 a1 a2
  · rw [hf.out, arrf_get f (by omega)]
    match j, hj with
    | 0, _ | 1, _ | 2, _ | 3, _ | 4, _ | 5, _ | 6, _ | 7, _ | 8, _ | 9, _ | 10, _ | 11, _ | 12, _ | 14, _ | 15, _ => simp [e0, e2, e11, e12]
    | 13, _ => exact absurd rfl hne
    | j + 16, h => exact absurd h (by omega)
end
end Go.Proofs.Ytimlbbleblijnaa.Co
