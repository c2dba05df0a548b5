/- Lemmas for the laws of this seat, laid together of PGcg, PGch, PGci, PGcj, PGdd. -/
import Derived.Test.YtimlbbleblijnaaR19
import Derived.Conc.LeavingOf
import Derived.Below
import Derived.JoinedCond

namespace Go.Proofs.Ytimlbbleblijnaa.Co
open Go Go.Conc Go.RowKit
open Go.ConcN (sumTo upd sumTo_upd upd_ne upd_same sumTo_congr le_sumTo)
set_option linter.unusedVariables false
set_option linter.unusedSimpArgs false
theorem sumTo_bound {f : Nat → Nat} {B : Nat} : ∀ n, (∀ i, i < n → f i ≤ B) → sumTo n f ≤ n * B
  | 0, _ => Nat.zero_le _
  | n + 1, h => by
    have h1 := sumTo_bound n (fun i hi => h i (by omega))
    have h2 := h n (by omega)
    have e : sumTo (n + 1) f = sumTo n f + f n := rfl
    rw [e, Nat.add_mul, Nat.one_mul]
    omega
theorem sumTo_zero : ∀ n, sumTo n (fun _ => 0) = 0
  | 0 => rfl
  | n + 1 => by
    have e : sumTo (n + 1) (fun _ => 0) = sumTo n (fun _ => 0) + 0 := rfl
    rw [e, sumTo_zero n]
theorem owns_form {x : World} {B e n : Nat} {v : Value} {xs : List Value} (h : x.ownsRow B e 1 v n xs) : ∃ aa cap, v = .slice aa n cap ∧ (0 < n → ∃ g, aa = some ⟨g, 0, none⟩ ∧ B ≤ g ∧ ∀ i u, xs[i]? = some u → x.cell? ⟨g, 0 + i, none⟩ = some u) := by
  obtain ⟨h1, h2⟩ := h
  rcases h2 with ⟨rfl, rfl⟩ | ⟨g, cap, cur, rfl, hb, hg, c1, c2, c3, c4⟩
  · exact ⟨none, 0, rfl, fun h => absurd h (by omega)⟩
  · refine ⟨_, cap, rfl, fun _ => ⟨g, rfl, hb, fun i u hu => ?_⟩⟩
    refine obj_cell hg ?_
    rw [← c4, List.getElem?_take] at hu
    split at hu
    · rw [Nat.zero_add]
      simpa using hu
    · cases hu
theorem owns_slice {x : World} {B e sz n : Nat} {v : Value} {xs : List Value} (h : x.ownsRow B e sz v n xs) : ∃ A cap, v = .slice A n cap := by
  obtain ⟨h1, h2⟩ := h
  rcases h2 with ⟨rfl, rfl⟩ | ⟨g, cap, cur, rfl, hb, hg, c1, c2, c3, c4⟩
  · exact ⟨none, 0, rfl⟩
  · exact ⟨_, cap, rfl⟩
theorem owns_lower {x : World} {B B' e sz n : Nat} {v : Value} {xs : List Value} (h : x.ownsRow B e sz v n xs) (hB : B' ≤ B) : x.ownsRow B' e sz v n xs := by
  obtain ⟨h1, h2⟩ := h
  refine ⟨h1, h2.imp id ?_⟩
  rintro ⟨g, cap, cur, e1, e2, r⟩
  exact ⟨g, cap, cur, e1, Nat.le_trans hB e2, r⟩
def playBs (ts : List (List Op3)) (L : List PT) (LB TB : Nat → Nat) (mb : Nat) (l : List Nat) : List (Body PS PL) := l.map fun i => ⟨clo LB TB mb i, (ts.getD i []).length, adv L i 0⟩
theorem start_pr {ts : List (List Op3)} {LB TB LA LO LC : Nat → Nat} {mb : Nat} : ∀ (m i : Nat) (x x0 : List (Option (Nat × PL)) × PS), i + m = ts.length → StartR (playBs ts (ptOf ts LB TB LA LO LC) LB TB mb (List.range' i m)) x x0 → x.1.length = i → x.2.ms = [] → x.2.cnt = (fun _ => 0) →
    (∀ t, t < i → (∃ n b, x.1[t]? = some (some (n, ⟨t, 0, b⟩)) ∧ 0 < lenOf ts t) ∨ (x.1[t]? = some none ∧ ¬ 0 < lenOf ts t)) → PR ts (x0.1, x0.2, 0) pa0
  | 0, i, x, x0, hi, h, h1, h2, h3, h4 => by
    cases h
    exact ⟨by dsimp only; omega, h2, h3, fun t ht => h4 t (by omega)⟩
  | m + 1, i, x, x0, hi, h, h1, h2, h3, h4 => by
    unfold playBs at h
    rw [List.range'_succ, List.map_cons] at h
    cases h with
    | @cons _ _ _ s' o _ hs ht =>
      dsimp only at hs ht
      have hget : ∀ (y : Option (Nat × PL)) t, t < i + 1 → (x.1 ++ [y])[t]? = if t = i then some y else x.1[t]? := fun y t ht => by
        by_cases e : t = i
        · subst e
          rw [if_pos rfl, ← h1, List.getElem?_append_right (Nat.le_refl _)]
          simp
        · rw [if_neg e, List.getElem?_append_left (by omega)]
      rcases hs with ⟨b, n, e1, e2⟩ | ⟨e1, e2⟩
      · cases e2
        have hlt := (opN_lt e1).1
        rw [opLen_of] at hlt
        refine start_pr m (i + 1) _ x0 (by omega) ht (by simp [h1]) h2 h3 (fun t hl => ?_)
        dsimp only
        rw [hget _ t hl]
        by_cases e : t = i
        · subst e
          rw [if_pos rfl]
          exact .inl ⟨_, b, rfl, hlt⟩
        · rw [if_neg e]
          exact h4 t (by omega)
      · cases e2
        rw [opLen_of] at e1
        refine start_pr m (i + 1) _ x0 (by omega) ht (by simp [h1]) h2 h3 (fun t hl => ?_)
        dsimp only
        rw [hget _ t hl]
        by_cases e : t = i
        · subst e
          rw [if_pos rfl]
          exact .inr ⟨rfl, by omega⟩
        · rw [if_neg e]
          exact h4 t (by omega)
structure PlayOut (h : Nat) (ts : List (List Op3)) (picks : List Int) (drain : Bool) (E : Env) (w : World) (E' : Env) (w' : World) (mv : Value) (ms : List Mk) : Prop where
  kept : Kept h none E w E' w'
  stands : Stands E w E' w'
  row : w'.ownsRow w.heap.size 37 4 mv ms.length (mksV ms)
  rowH : ∀ g, mv.ownBlock = some g → E'.H g = none
  many : 8 < ts.length → ms = []
  game : ts.length ≤ 8 → ∃ a' k, (playG ts).Run picks drain pa0 (a', k) ∧ a'.ms = ms
section
variable {h : Nat} {F : Machine → Trace → Prop} {E : Env} {w : World} {b₀ : Frame} {a₀ : Act} {ops₀ : Array Oper} {i₀ : Nat} {rest₀ : List Nat} {k₀ : List Item} {cl : List Frame}
theorem kc_of {E2 : Env} {w2 : World} {mb : Nat} {a : Addr} {v : Value} (h1 : w2.cell? a = some v) (h2 : E2.H a.block = none) (h3 : a.block ≠ mb) : KC (fun b o => w2.heap[b]? = some o ∧ E2.H b = none ∧ b ≠ mb) a v := by
  have hl := World.block_lt_of_cell? w2 _ h1
  refine ⟨w2.heap[a.block], ⟨Array.getElem?_eq_getElem hl, h2, h3⟩, fun w' hw' => ?_⟩
  rw [← h1]
  exact World.cell?_of_block (by rw [hw', Array.getElem?_eq_getElem hl])
theorem play_holds {ts : List (List Op3)} {picks : List Int} {drain : Bool} {tv pv : Value} (hT : OpsAt E w tv ts) (hP : IntsAt E w pv picks) (hn : ts.length ≤ 1000000000000) (hl : ∀ l ∈ ts, l.length ≤ 100000000000) (hnp : picks.length ≤ 1000000000000000) (hp64 : ∀ p ∈ picks, -9223372036854775808 ≤ p ∧ p ≤ 9223372036854775807)
    (hrole : E.role h = .gone) (hmode : ∀ b, E.mode b = 0)
    (hc : ∀ E' w' mv ms, PlayOut h ts picks drain E w E' w' mv ms → HG Try.prog h F E' (G (b₀.at (a₀.put ((ops₀[i₀]?).bind (·.dst)) mv) (.inRegion ops₀ rest₀ :: k₀)) cl) w') :
    HGn Try.prog h F E w 100 (entry 21 Try.f21 #[tv, pv, .bool drain] (b₀.at a₀ (.inRegion ops₀ (i₀ :: rest₀) :: k₀) :: cl)) := by
  obtain ⟨ta, ba, bo, cap, LA, LC, rfl, hta, hts⟩ := hT.at_
  obtain ⟨pa, pb, po, pcap, rfl, hpa, hps⟩ := hP.at_
  have hget : ∀ i, i < ts.length → ts[i]? = some (ts.getD i []) := fun i hi => by simp [List.getD, List.getElem?_eq_getElem hi]
  refine play_in (LA := LA) (LN := fun i => (ts.getD i []).length) (LC := LC) rfl hta hn (fun i hi => (hts i _ (hget i hi)).1) (fun E2 w2 T' v LB TB hE hK hold hB hmb hbx hs t1 t2 t6 t7 t8 => ?_)
  have hH2 : E2.H = E.H := hE.H'
  obtain ⟨mb, hmbe⟩ : ∃ mb, mb = w.heap.size := ⟨_, rfl⟩
  rw [← hmbe] at hmb hbx t7
  have hS2 : Stands E w E2 w2 := fun b o h1 h2 => ⟨by rw [hH2]; exact h1, by rw [hold b h1 (Array.getElem?_eq_some_iff.1 h2).1]; exact h2⟩
  have hT2 := hT.stands hS2
  have hmbH : E2.H mb = none := by rw [hH2]; exact hB mb (by omega)
  obtain ⟨aa, bcap, rfl, hvf⟩ := owns_form hbx.row
  refine play_to_run hs t1 t2 t8 (fun T2 ops i rest k hs2 hj hd hr hk => ?_)
  subst hr hk
  have t7' := (hj 7 (by decide)).trans t7
  by_cases h8 : 8 < ts.length
  · refine run_many h8 ?_
    refine play_out hs2 t7' (obj_cell (v := .slice none 0 0) hmb rfl) hmbH hd (fun E3 w3 hE3 hK3 hold3 => ?_)
    have hH3 : E3.H = E2.H := hE3.H'
    refine hc E3 w3 _ [] ⟨hK.trans hK3, hS2.trans (fun b o h1 h2 => ⟨by rw [hH3]; exact h1, by rw [hold3 b h1 (Array.getElem?_eq_some_iff.1 h2).1]; exact h2⟩), ⟨by simp [mksV], .inl ⟨rfl, rfl⟩⟩, fun g e => (by cases e), fun _ => rfl, fun h => absurd h (by omega)⟩
  · have hN8 : ts.length ≤ 8 := by omega
    let la : Nat → Nat := fun i => ((LA i).map (·.block)).getD 0
    let lo : Nat → Nat := fun i => ((LA i).map (·.off)).getD 0
    obtain ⟨L, hL⟩ : ∃ L, L = ptOf ts LB TB la lo LC := ⟨_, rfl⟩
    obtain ⟨K, hKe⟩ : ∃ K : Nat → Obj → Prop, K = fun b o => w2.heap[b]? = some o ∧ E2.H b = none ∧ b ≠ mb := ⟨_, rfl⟩
    have kc : ∀ {a : Addr} {v : Value}, w2.cell? a = some v → E2.H a.block = none → a.block ≠ mb → KC K a v := fun h1 h2 h3 => by rw [hKe]; exact kc_of h1 h2 h3
    have kold : ∀ {a : Addr} {v : Value}, w.cell? a = some v → E.H a.block = none → KC K a v := fun {a v} h1 h2 => by
      obtain ⟨q1, q2⟩ := hS2.cell h1 h2
      exact kc q1 q2 (by have := World.block_lt_of_cell? w _ h1; omega)
    have hlen : ∀ i, i < ts.length → (ts.getD i []).length ≤ 100000000000 := fun i hi => hl _ (List.mem_of_getElem? (hget i hi))
    have hbound : sumTo L.length (opLen L) ≤ 1000000000000 := by
      have h1 := sumTo_bound (f := opLen L) (B := 100000000000) L.length (fun i hi => by
        rw [hL, opLen_of]
        rw [hL, ptOf_len] at hi
        unfold lenOf
        rw [hget i hi]
        exact hlen i hi)
      have h2 : L.length ≤ 8 := by rw [hL, ptOf_len]; exact hN8
      have h3 : L.length * 100000000000 ≤ 8 * 100000000000 := Nat.mul_le_mul_right _ h2
      omega
    have hPT : ∀ i, i < ts.length → PTok K L i ⟨TB i, LB i, la i, lo i, LC i, ts.getD i []⟩ := fun i hi => by
      obtain ⟨b1, b2, b3, b4, b5, b6⟩ := hbx.box i hi
      obtain ⟨_, hops⟩ := hts i _ (hget i hi)
      have hbl : ∀ hne : ts.getD i [] ≠ [], LA i = some ⟨la i, lo i, none⟩ := fun hne => by
        obtain ⟨x, y, e1, _, _⟩ := hops hne
        show LA i = some ⟨((LA i).map (·.block)).getD 0, ((LA i).map (·.off)).getD 0, none⟩
        rw [e1]; rfl
      refine ⟨by rw [hL]; exact ptOf_get hi, kc b2 (by rw [hH2]; exact hB _ (by dsimp only; omega)) (by dsimp only; omega), ⟨LA i, kc b1 (by rw [hH2]; exact hB _ (by dsimp only; omega)) (by dsimp only; omega), hbl⟩, fun j op hj => ?_, ?_⟩
      · have hne : ts.getD i [] ≠ [] := fun e => by
          have hj' : (ts.getD i [])[j]? = some op := hj
          rw [e] at hj'; cases hj'
        obtain ⟨x, y, e1, e2, e3⟩ := hops hne
        have e4 := hbl hne
        rw [e1] at e4
        injection e4 with e5
        injection e5 with e6 e7 _
        subst e6 e7
        obtain ⟨c1, c2, c3⟩ := e3 j op hj
        exact ⟨kold c1 e2, kold c2 e2, kold c3 e2⟩
      · have := hlen i hi
        dsimp only
        omega
    obtain ⟨bs, hbs⟩ : ∃ bs, bs = playBs ts L LB TB mb (List.range ts.length) := ⟨_, rfl⟩
    have hbl : bs.length = ts.length := by rw [hbs]; simp [playBs]
    have hbg : ∀ i b, bs[i]? = some b → i < ts.length ∧ b = ⟨clo LB TB mb i, (ts.getD i []).length, adv L i 0⟩ := fun i b e => by
      have hi : i < ts.length := by rw [← hbl]; exact (List.getElem?_eq_some_iff.1 e).1
      refine ⟨hi, ?_⟩
      rw [hbs] at e
      unfold playBs at e
      rw [List.getElem?_map, List.getElem?_range hi] at e
      exact (Option.some.inj e).symm
    have hM : PlayM mb K L ⟨[], [], fun _ => 0⟩ E2 w2 := by
      refine ⟨hmbH, fun b o hk => by rw [hKe] at hk; exact hk, ⟨.slice none 0 0, hmb, ⟨by simp [mksV], .inl ⟨rfl, rfl⟩⟩, fun g e => (by cases e)⟩, fun ob ho => (by cases ho), by rw [sumTo_zero]; rfl, fun t => Nat.zero_le _⟩
    rw [← hbl]
    refine run_holds (D := playD mb K L) (s := ⟨[], [], fun _ => 0⟩) (bs := bs) (picks := picks) (drain := drain) (ba := (aa.map (·.block)).getD 0) (bo := 0) (pb := pb) (po := po) (by rw [hbl]; exact hN8) hnp (fun b hb => ?_) (fun hne => ?_) hpa hp64 (fun s E' w' m i b hi => ?_) (fun s E' w' m i p hi => ?_) (fun i b hi => ?_) (fun i b hi => ?_) (fun _ _ => rfl) (hE.roleH.trans hrole) (fun b => hE.mode b (hmode b)) hM (fun z E' w' hz kk m => ?_)
    · obtain ⟨i, hi⟩ := List.mem_iff_getElem?.1 hb
      obtain ⟨hi', rfl⟩ := hbg i b hi
      have := hlen i hi'
      dsimp only
      omega
    · have : 0 < ts.length := by rw [← hbl]; exact List.length_pos_iff.2 hne
      obtain ⟨g, rfl, _⟩ := hvf this
      rfl
    · obtain ⟨hi', rfl⟩ := hbg i b hi
      obtain ⟨g, rfl, hg1, hg2⟩ := hvf (by omega)
      have h1 := hg2 i (clo LB TB mb i) (by rw [List.getElem?_map, List.getElem?_range hi']; rfl)
      have m' : PlayM mb K L s E' w' := m
      obtain ⟨k1, k2, _⟩ := m'.konst _ _ (kc h1 (by rw [hH2]; exact hB _ (by dsimp only; omega)) (by dsimp only; omega))
      exact ⟨k1, k2⟩
    · have m' : PlayM mb K L s E' w' := m
      obtain ⟨q1, q2⟩ := hps i p hi
      obtain ⟨k1, k2, _⟩ := m'.konst _ _ (kold q1 q2)
      exact ⟨k1, k2⟩
    · obtain ⟨hi', rfl⟩ := hbg i b hi
      exact bornV_clo (fb := 67) (fn := Try.f67) Try.func67 rfl rfl (play_born (hPT i hi') hbound)
    · obtain ⟨hi', rfl⟩ := hbg i b hi
      exact play_start i
    · have m' : PlayM mb K L z.1 E' w' := m
      obtain ⟨mv, r1, r2, r3⟩ := m'.row
      obtain ⟨A, mcap, rfl⟩ := owns_slice r2
      refine play_out hs2 t7' (obj_cell (v := .slice A z.1.ms.length mcap) r1 rfl) m'.mbH hd (fun E3 w3 hE3 hK3 hold3 => ?_)
      have hH3 : E3.H = E'.H := hE3.H'
      have hS3 : Stands E w E' w' := fun b o h1 h2 => by
        obtain ⟨a1, a2⟩ := hS2 b o h1 h2
        have hlt := (Array.getElem?_eq_some_iff.1 h2).1
        obtain ⟨k1, k2, _⟩ := m'.kobj b o (by rw [hKe]; exact ⟨a2, a1, by omega⟩)
        exact ⟨k2, k1⟩
      refine hc E3 w3 _ z.1.ms ⟨(hK.trans kk).trans hK3, hS3.trans (fun b o h1 h2 => ⟨by rw [hH3]; exact h1, by rw [hold3 b h1 (Array.getElem?_eq_some_iff.1 h2).1]; exact h2⟩), ?_, fun g e => ?_, fun h => absurd h h8, fun _ => ?_⟩
      · refine owns_lower (ownsRow_same r2 (fun g hg => hold3 g (r3 g hg).1 (r2.lt g hg).2)) (by omega)
      · rw [hH3]; exact (r3 g e).1
      · have p1 : ∀ x0, StartR bs ([], ⟨[], [], fun _ => 0⟩) x0 → PR ts (x0.1, x0.2, 0) pa0 := fun x0 hx0 => by
          rw [hbs, hL, List.range_eq_range'] at hx0
          exact start_pr ts.length 0 _ x0 (by omega) hx0 rfl rfl rfl (fun t ht => absurd ht (by omega))
        have p2 : bs.length = 0 → PR ts ([], ⟨[], [], fun _ => 0⟩, 0) pa0 := fun h0 => ⟨by dsimp only [List.length_nil]; omega, rfl, rfl, fun t ht => absurd ht (by omega)⟩
        obtain ⟨a', st, hr, hg⟩ := Sim.run (R := PR ts) (G := playG ts) (D := playD mb K L) (by rw [hL]; exact play_sim) hz hbl pa0 p1 p2
        exact ⟨a', _, hg, hr.ms.symm⟩
#print axioms play_holds
end
end Go.Proofs.Ytimlbbleblijnaa.Co

namespace Go.Proofs.Ytimlbbleblijnaa.Co
open Go Go.Conc Go.RowKit
open Go.ConcN (sumTo upd sumTo_upd upd_ne upd_same sumTo_congr le_sumTo)
set_option linter.unusedVariables false
set_option linter.unusedSimpArgs false
section
variable {P : Program} {h : Nat} {F : Machine → Trace → Prop} {E : Env} {w : World} {n : Nat} {fr : Frame} {a : Act} {k : List Item} {cs : List Frame} {ops : Array Oper} {i : Nat} {rest : List Nat} {o : Oper}
theorem HGn.mkV {c : Array Value} {t : TypeId} (val : Nat → Value) (hrole : E.role h = .gone) (ho : ops[i]? = some o) (hw : Region.wanted o (yielded ops a.tmps) = true) (hk : fr.kind ≠ .early)
    (hr : ∀ w₁ : World, (execOp a.eval o).run P w₁ = .ok (.value (val w₁.heap.size)) (w₁.alloc (.cells c t)) ∧ (execOp a.eval o).events P w₁ #[] = #[]) (hg : (∀ b, w.heap.size ≤ b → E.H b = none) → E.W w.heap.size = false → HGn P h F E (w.alloc (.cells c t)) n (G (fr.at (a.put o.dst (val w.heap.size)) (.inRegion ops rest :: k)) cs)) :
    HGn P h F E w (n + 1) (G (fr.at a (.inRegion ops (i :: rest) :: k)) cs) := by
  refine HG.withB fun hB _ _ => HG.withH fun hWH _ => ?_
  have hWn : E.W w.heap.size = false := by
    cases e : E.W w.heap.size with
    | false => rfl
    | true => have := hWH _ e; rw [hB _ (Nat.le_refl _)] at this; cases this
  replace hg := hg hB hWn
  refine HG.open fun E1 w1 hA ⟨gs, T, q, C, _⟩ => ?_
  have hAw := hA.2
  have hW1 : E1.W = E.W := hA.1.W'
  refine (HG.clo P h F E1).own rfl fun w₂ h2 => ?_
  obtain ⟨e1, e2⟩ := hr w₂
  have hsz : w₂.heap.size = w.heap.size := h2.size.trans hAw.size
  have hget : ∀ b, b < w₂.heap.size → (w₂.alloc (.cells c t)).heap[b]? = w₂.heap[b]? := fun b hb => alloc_old hb
  refine ⟨G (fr.at (a.put o.dst (val w.heap.size)) (.inRegion ops rest :: k)) cs, w₂.alloc (.cells c t), #[], ?_, ⟨by rw [alloc_size]; omega, fun a' ⟨i, hi⟩ => ?_, fun c' ⟨i, home, hi⟩ => ?_, fun b hb x st sm e' hx => ?_, fit_alloc, fun ev he => by simp at he, ⟨rfl, rfl⟩⟩, ?_⟩
  · rw [stepG_value ho hw hk e1]
    unfold listed
    rw [e2, seen_none, hsz]
  · have hl : a'.block < w₂.heap.size := by rw [h2.size]; exact C.S_lt hi
    unfold World.cell?
    rw [hget _ hl]
  · have hih : i ≠ h := fun z => by
      subst z
      have := hA.1.roleH
      rw [hi, hrole] at this
      cases this
    obtain ⟨k', hk'⟩ := C.chans i c' home hih (C.seat_lt hi) hi
    exact hget _ (by rw [h2.size]; exact (Array.getElem?_eq_some_iff.1 hk').1)
  · exact ⟨x, by rw [hget _ (Array.getElem?_eq_some_iff.1 hx).1]; exact hx⟩
  · have hA2 : Aw E.W (w.alloc (.cells c t)) (w₂.alloc (.cells c t)) := aw_alloc (hAw.trans _ _ _ (by rw [← hW1]; exact h2)) hWn
    exact (show HG P h F E _ _ from hg).at ⟨hA.1, hA2⟩
end
def standD (K : Nat → Obj → Prop) : Prot Unit Empty where
  M _ E w := ∀ b o, K b o → w.heap[b]? = some o ∧ E.H b = none
  next ℓ := nomatch ℓ
  fits ℓ := nomatch ℓ
  who ℓ := nomatch ℓ
  init _ _ := True
  mono ℓ := nomatch ℓ
  fresh ℓ := nomatch ℓ
  tal ℓ := nomatch ℓ
  closed := fun s E w E' w' m hb b o hk => by
    obtain ⟨k1, k2⟩ := m b o hk
    obtain ⟨h1, h2⟩ := hb b (Array.getElem?_eq_some_iff.1 k1).1 k2
    exact ⟨h2.trans k1, h1⟩
theorem stands_alloc {E : Env} {w : World} {o : Obj} : Stands E w E (w.alloc o) := fun b x h1 h2 => ⟨h1, by rw [alloc_old (Array.getElem?_eq_some_iff.1 h2).1]; exact h2⟩
section
variable {h : Nat} {F : Machine → Trace → Prop} {E : Env} {w : World} {b₀ : Frame} {a₀ : Act} {ops₀ : Array Oper} {i₀ : Nat} {rest₀ : List Nat} {k₀ : List Item} {cl : List Frame}
theorem run_empty {picks : List Int} {drain : Bool} {pv : Value} (hP : IntsAt E w pv picks) (hnp : picks.length ≤ 1000000000000000) (hp64 : ∀ p ∈ picks, -9223372036854775808 ≤ p ∧ p ≤ 9223372036854775807) (hrole : E.role h = .gone) (hmode : ∀ b, E.mode b = 0)
    (hc : ∀ E' w', Kept h none E w E' w' → Stands E w E' w' → HG Try.prog h F E' (G (b₀.at (a₀.put ((ops₀[i₀]?).bind (·.dst)) (.int .i64 0)) (.inRegion ops₀ rest₀ :: k₀)) cl) w') :
    HG Try.prog h F E (entry 29 Try.f29 #[.slice none 0 0, pv, .bool drain] (b₀.at a₀ (.inRegion ops₀ (i₀ :: rest₀) :: k₀) :: cl)) w := by
  obtain ⟨pa, pb, po, pcap, rfl, hpa, hps⟩ := hP.at_
  refine run_holds (D := standD (fun b o => w.heap[b]? = some o ∧ E.H b = none)) (s := ()) (bs := []) (picks := picks) (drain := drain) (ba := 0) (bo := 0) (pb := pb) (po := po) (by simp) hnp (fun b hb => by cases hb) (fun h => absurd rfl h) hpa hp64 (fun s E' w' m i b hi => by simp at hi) (fun s E' w' m i p hi => ?_) (fun i b hi => by simp at hi) (fun i b hi => by simp at hi) trivial hrole hmode (fun b o hk => hk) (fun z E' w' hz kk m => ?_)
  · obtain ⟨q1, q2⟩ := hps i p hi
    have hl := World.block_lt_of_cell? w _ q1
    obtain ⟨k1, k2⟩ := m pb _ ⟨Array.getElem?_eq_getElem hl, q2⟩
    exact ⟨(World.cell?_of_block (by rw [k1, Array.getElem?_eq_getElem hl])).trans q1, k2⟩
  · unfold RunR at hz
    rw [if_pos (by rfl)] at hz
    rw [hz]
    exact hc E' w' kk (fun b o h1 h2 => by
      obtain ⟨k1, k2⟩ := m b o ⟨h2, h1⟩
      exact ⟨k2, k1⟩)
#print axioms run_empty
end
end Go.Proofs.Ytimlbbleblijnaa.Co

namespace Go.Proofs.Ytimlbbleblijnaa.Co
open Go Go.Conc Go.RowKit
open Go.ConcN (sumTo upd sumTo_upd upd_ne upd_same sumTo_congr le_sumTo)
set_option linter.unusedVariables false
set_option linter.unusedSimpArgs false
noncomputable def fxBody : Code := Try.f17.body.getD .skip
noncomputable def fx0 : Code := match fxBody with | .seq x _ => x | _ => .skip
noncomputable def fx1 : Code := match fxBody with | .seq _ (.seq x _) => x | _ => .skip
noncomputable def fx2 : Code := match fxBody with | .seq _ (.seq _ (.seq x _)) => x | _ => .skip
noncomputable def fx3 : Code := match fxBody with | .seq _ (.seq _ (.seq _ (.seq x _))) => x | _ => .skip
theorem fx_parts : fxBody = .seq fx0 (.seq fx1 (.seq fx2 (.seq fx3 .ret))) := by kernel_rfl
noncomputable def xf0 : Code := fx0
noncomputable def xf1 : Code := fx1
set_option maxRecDepth 100000 in
set_option maxHeartbeats 4000000 in
theorem fx3_wp {f : Nat → Value} {x : World} {g cap : Nat} {Q : Exit → Act → World → Prop} (h1 : f 1 = .slice (some ⟨g, 0, none⟩) 3 cap) (h2 : f 2 = .int .i64 0)
    (c0 : x.cell? ⟨g, 0, none⟩ = some (.int .i64 1)) (c1 : x.cell? ⟨g, 1, none⟩ = some (.int .i64 1)) (c2 : x.cell? ⟨g, 2, none⟩ = some (.int .i64 0)) (c3 : x.cell? ⟨g, 3, none⟩ = some (.int .i64 7))
    (c8 : x.cell? ⟨g, 8, none⟩ = some (.int .i64 0)) (c9 : x.cell? ⟨g, 9, none⟩ = some (.int .i64 3)) (c10 : x.cell? ⟨g, 10, none⟩ = some (.int .i64 1)) (c11 : x.cell? ⟨g, 11, none⟩ = some (.int .i64 6))
    (hQ : ∀ T', T'.size = 34 → T'[0]? = some (.bool true) → Q .normal ⟨T', []⟩ x) :
    fx3.wp Try.prog Q ⟨(List.map f (List.range 34)).toArray, []⟩ x := by
  simp only [List.range, List.range.loop, List.map_cons, List.map_nil, h1, h2]
  simp only [fx3, fxBody, Try.f17, Option.getD_some]
  go_wp2
  exact hQ _ (by simp) (by simp)
theorem fx3_wpT {T : Array Value} {x : World} {g cap : Nat} {Q : Exit → Act → World → Prop} (hs : T.size = 34) (h1 : T[1]? = some (.slice (some ⟨g, 0, none⟩) 3 cap)) (h2 : T[2]? = some (.int .i64 0))
    (hcs : ∀ i u, (mksV [((1 : Int), (1 : Int), (0 : Int), (7 : Int)), (0, 2, 0, 5), (0, 3, 1, 6)])[i]? = some u → x.cell? ⟨g, i, none⟩ = some u)
    (hQ : ∀ T', T'.size = 34 → T'[0]? = some (.bool true) → Q .normal ⟨T', []⟩ x) : fx3.wp Try.prog Q ⟨T, []⟩ x := by
  obtain ⟨f, hf, fz⟩ := arrfv T hs
  rw [hf]
  exact fx3_wp (fz 1 _ h1) (fz 2 _ h2) (hcs 0 _ rfl) (hcs 1 _ rfl) (hcs 2 _ rfl) (hcs 3 _ rfl) (hcs 8 _ rfl) (hcs 9 _ rfl) (hcs 10 _ rfl) (hcs 11 _ rfl) hQ
theorem fixed06_game {a' : PA} {k : Int} (h : (playG [[((0 : Int), (0 : Int), (5 : Int)), (0, 0, 6)], [(0, 0, 7)]]).Run [1, 0] true pa0 (a', k)) : a'.ms = [((1 : Int), (1 : Int), (0 : Int), (7 : Int)), (0, 2, 0, 5), (0, 3, 1, 6)] := by
  have hx : (playG [[((0 : Int), (0 : Int), (5 : Int)), (0, 0, 6)], [(0, 0, 7)]]).Run [1, 0] true pa0 (⟨[((1 : Int), (1 : Int), (0 : Int), (7 : Int)), (0, 2, 0, 5), (0, 3, 1, 6)], upd (upd (upd (fun _ => 0) 1 1) 0 1) 0 2⟩, 3) := by
    unfold Game.Run
    rw [if_neg (by decide)]
    simp only [if_true]
    refine Game.Drn.go (t := 0) (by decide) ?_
    exact Game.Drn.stop (by rfl)
  have := h.det hx
  simp only [Prod.mk.injEq] at this
  rw [this.1]
theorem row_cells {x : World} {B e n : Nat} {g cap : Nat} {xs : List Value} {sz : Nat} (h : x.ownsRow B e sz (.slice (some ⟨g, 0, none⟩) n cap) n xs) : ∀ i u, xs[i]? = some u → x.cell? ⟨g, i, none⟩ = some u := by
  obtain ⟨h1, h2⟩ := h
  rcases h2 with ⟨h2, _⟩ | ⟨g', cap', cur, e1, hb, hg, c1, c2, c3, c4⟩
  · cases h2
  · intro i u hu
    cases e1
    refine obj_cell hg ?_
    rw [← c4, List.getElem?_take] at hu
    split at hu
    · simpa using hu
    · cases hu
theorem row_some {x : World} {B e n : Nat} {v : Value} {xs : List Value} {sz : Nat} (h : x.ownsRow B e sz v n xs) (hn : 0 < n) : ∃ g cap, v = .slice (some ⟨g, 0, none⟩) n cap := by
  obtain ⟨h1, h2⟩ := h
  rcases h2 with ⟨rfl, rfl⟩ | ⟨g, cap, cur, rfl, _⟩
  · exact absurd hn (by omega)
  · exact ⟨g, cap, rfl⟩
noncomputable def xf2 : Code := fx2
section
variable {h : Nat} {F : Machine → Trace → Prop} {E : Env} {w : World} {b₀ : Frame} {a₀ : Act} {ops₀ : Array Oper} {i₀ : Nat} {rest₀ : List Nat} {k₀ : List Item} {cl : List Frame}
set_option maxRecDepth 100000 in
set_option maxHeartbeats 4000000 in
theorem fixed06_holds (hrole : E.role h = .gone) (hmode : ∀ b, E.mode b = 0)
    (hc : ∀ E' w', Kept h none E w E' w' → Stands E w E' w' → HG Try.prog h F E' (G (b₀.at (a₀.put ((ops₀[i₀]?).bind (·.dst)) (.bool true)) (.inRegion ops₀ rest₀ :: k₀)) cl) w') :
    HGn Try.prog h F E w 100 (entry 17 Try.f17 #[] (b₀.at a₀ (.inRegion ops₀ (i₀ :: rest₀) :: k₀) :: cl)) := by
  unfold entry
  rw [show Try.f17.body.getD .skip = .seq xf0 (.seq xf1 (.seq fx2 (.seq fx3 .ret))) from fx_parts, show Try.f17.ntmps = 34 from rfl]
  generalize hG2 : fx2 = L2
  generalize hG3 : fx3 = L3
  simp only [xf0, xf1, fx0, fx1, fxBody, Try.f17, Option.getD_some]
  walk_nrm
  refine Idl.q (idl_hg Try.prog h F E w) (Idl.rg (idl_hg Try.prog h F E w) [0] rfl ?_)
  apply Idl.value (idl_hg Try.prog h F E w) rfl rfl (by first | decide | exact Go.ConcR.Gen.base_kind _ | exact Go.ConcR.Gen.baseD_kind _ | assumption)
  focus (intro w; go_simp; (try w_num); first | done | rfl)
  focus (intro w; simp [go_sem, *])
  walk_nrm
  refine Idl.re (idl_hg Try.prog h F E w) (Idl.q (idl_hg Try.prog h F E w) (Idl.rg (idl_hg Try.prog h F E w) [0, 1, 2, 3, 4, 5, 6, 7, 8] rfl ?_))
  apply Idl.value (idl_hg Try.prog h F E w) rfl rfl (by first | decide | exact Go.ConcR.Gen.base_kind _ | exact Go.ConcR.Gen.baseD_kind _ | assumption)
  focus (intro w; go_simp; (try w_num); first | done | rfl)
  focus (intro w; simp [go_sem, *])
  walk_nrm
  apply Idl.value (idl_hg Try.prog h F E w) rfl rfl (by first | decide | exact Go.ConcR.Gen.base_kind _ | exact Go.ConcR.Gen.baseD_kind _ | assumption)
  focus (intro w; go_simp; (try w_num); first | done | rfl)
  focus (intro w; simp [go_sem, *])
  walk_nrm
  refine HGn.mkV (c := #[.int .i64 0, .int .i64 0, .int .i64 5, .int .i64 0, .int .i64 0, .int .i64 6]) (t := 34) (fun s => .slice (some ⟨s, 0, none⟩) 2 2) hrole rfl rfl (by k_ne) (fun w₁ => ⟨by kernel_rfl, by kernel_rfl⟩) (fun B1 _ => ?_)
  walk_nrm
  obtain ⟨w1, e1⟩ : ∃ w1, w1 = w.alloc (.cells #[.int .i64 0, .int .i64 0, .int .i64 5, .int .i64 0, .int .i64 0, .int .i64 6] 34) := ⟨_, rfl⟩
  rw [← e1]
  apply Idl.value (idl_hg Try.prog h F E w1) rfl rfl (by first | decide | exact Go.ConcR.Gen.base_kind _ | exact Go.ConcR.Gen.baseD_kind _ | assumption)
  focus (intro w; go_simp; (try w_num); first | done | rfl)
  focus (intro w; simp [go_sem, *])
  walk_nrm
  refine HGn.mkV (c := #[.int .i64 0, .int .i64 0, .int .i64 7]) (t := 34) (fun s => .slice (some ⟨s, 0, none⟩) 1 1) hrole rfl rfl (by k_ne) (fun w₁ => ⟨by kernel_rfl, by kernel_rfl⟩) (fun B2 _ => ?_)
  walk_nrm
  obtain ⟨w2, e2⟩ : ∃ w2, w2 = w1.alloc (.cells #[.int .i64 0, .int .i64 0, .int .i64 7] 34) := ⟨_, rfl⟩
  rw [← e2]
  skip
  refine HGn.mkV (c := #[.slice (some ⟨w.heap.size, 0, none⟩) 2 2, .slice (some ⟨w1.heap.size, 0, none⟩) 1 1]) (t := 32) (fun s => .slice (some ⟨s, 0, none⟩) 2 2) hrole rfl rfl (by k_ne) (fun w₁ => ⟨by kernel_rfl, by kernel_rfl⟩) (fun B3 _ => ?_)
  walk_nrm
  obtain ⟨w3, e3⟩ : ∃ w3, w3 = w2.alloc (.cells #[.slice (some ⟨w.heap.size, 0, none⟩) 2 2, .slice (some ⟨w1.heap.size, 0, none⟩) 1 1] 32) := ⟨_, rfl⟩
  rw [← e3]
  skip
  refine HGn.mkV (c := #[.int .i64 1, .int .i64 0]) (t := 3) (fun s => .slice (some ⟨s, 0, none⟩) 2 2) hrole rfl rfl (by k_ne) (fun w₁ => ⟨by kernel_rfl, by kernel_rfl⟩) (fun B4 _ => ?_)
  walk_nrm
  obtain ⟨w4, e4⟩ : ∃ w4, w4 = w3.alloc (.cells #[.int .i64 1, .int .i64 0] 3) := ⟨_, rfl⟩
  rw [← e4]
  skip
  refine Idl.callE (fn := Try.f21) (vs := #[.slice (some ⟨w2.heap.size, 0, none⟩) 2 2, .slice (some ⟨w3.heap.size, 0, none⟩) 2 2, .bool true]) (idl_hg Try.prog h F E w4) rfl rfl (by k_ne) rfl Try.func21 rfl rfl (by simp [Act.eval]) ?_
  have s1 : w1.heap.size = w.heap.size + 1 := by rw [e1, alloc_size]
  have s2 : w2.heap.size = w.heap.size + 2 := by rw [e2, alloc_size, s1]
  have s3 : w3.heap.size = w.heap.size + 3 := by rw [e3, alloc_size, s2]
  have s4 : w4.heap.size = w.heap.size + 4 := by rw [e4, alloc_size, s3]
  have g1 : w4.heap[w.heap.size]? = some (.cells #[.int .i64 0, .int .i64 0, .int .i64 5, .int .i64 0, .int .i64 0, .int .i64 6] 34) := by
    rw [e4, alloc_old (by omega), e3, alloc_old (by omega), e2, alloc_old (by omega), e1]; exact alloc_new
  have g2 : w4.heap[w1.heap.size]? = some (.cells #[.int .i64 0, .int .i64 0, .int .i64 7] 34) := by
    rw [e4, alloc_old (by omega), e3, alloc_old (by omega), e2]; exact alloc_new
  have g3 : w4.heap[w2.heap.size]? = some (.cells #[.slice (some ⟨w.heap.size, 0, none⟩) 2 2, .slice (some ⟨w1.heap.size, 0, none⟩) 1 1] 32) := by
    rw [e4, alloc_old (by omega), e3]; exact alloc_new
  have g4 : w4.heap[w3.heap.size]? = some (.cells #[.int .i64 1, .int .i64 0] 3) := by rw [e4]; exact alloc_new
  have hK4 : Kept h none E w E w4 := by
    have k1 : Kept h none E w E w1 := by rw [e1]; exact kept_alloc
    have k2 : Kept h none E w1 E w2 := by rw [e2]; exact kept_alloc
    have k3 : Kept h none E w2 E w3 := by rw [e3]; exact kept_alloc
    have k4 : Kept h none E w3 E w4 := by rw [e4]; exact kept_alloc
    exact ((k1.trans k2).trans k3).trans k4
  have hS4 : Stands E w E w4 := by
    have k1 : Stands E w E w1 := by rw [e1]; exact stands_alloc
    have k2 : Stands E w1 E w2 := by rw [e2]; exact stands_alloc
    have k3 : Stands E w2 E w3 := by rw [e3]; exact stands_alloc
    have k4 : Stands E w3 E w4 := by rw [e4]; exact stands_alloc
    exact ((k1.trans k2).trans k3).trans k4
  have hOps : OpsAt E w4 (.slice (some ⟨w2.heap.size, 0, none⟩) 2 2) [[((0 : Int), (0 : Int), (5 : Int)), (0, 0, 6)], [(0, 0, 7)]] := by
    refine ⟨_, w2.heap.size, 0, 2, fun i => if i = 0 then some ⟨w.heap.size, 0, none⟩ else some ⟨w1.heap.size, 0, none⟩, fun i => if i = 0 then 2 else 1, rfl, fun _ => rfl, fun i l hi => ?_⟩
    match i, hi with
    | 0, hi =>
      cases hi
      refine ⟨⟨obj_cell g3 rfl, B1 _ (by omega)⟩, fun _ => ⟨w.heap.size, 0, rfl, B1 _ (by omega), fun j op hj => ?_⟩⟩
      match j, hj with
      | 0, hj => cases hj; exact ⟨obj_cell g1 rfl, obj_cell g1 rfl, obj_cell g1 rfl⟩
      | 1, hj => cases hj; exact ⟨obj_cell g1 rfl, obj_cell g1 rfl, obj_cell g1 rfl⟩
      | j + 2, hj => cases hj
    | 1, hi =>
      cases hi
      refine ⟨⟨obj_cell g3 rfl, B1 _ (by omega)⟩, fun _ => ⟨w1.heap.size, 0, rfl, B1 _ (by omega), fun j op hj => ?_⟩⟩
      match j, hj with
      | 0, hj => cases hj; exact ⟨obj_cell g2 rfl, obj_cell g2 rfl, obj_cell g2 rfl⟩
      | j + 1, hj => cases hj
    | i + 2, hi => cases hi
  have hInts : IntsAt E w4 (.slice (some ⟨w3.heap.size, 0, none⟩) 2 2) [1, 0] := by
    refine ⟨_, w3.heap.size, 0, 2, rfl, fun _ => rfl, fun i p hi => ?_⟩
    match i, hi with
    | 0, hi => cases hi; exact ⟨obj_cell g4 rfl, B1 _ (by omega)⟩
    | 1, hi => cases hi; exact ⟨obj_cell g4 rfl, B1 _ (by omega)⟩
    | i + 2, hi => cases hi
  clear e1 e2 e3 e4 g1 g2 g3 g4
  refine play_holds hOps hInts (by decide) (by decide) (by decide) (by decide) hrole hmode (fun E5 w5 mv ms po => ?_)
  obtain ⟨a', k', hg, hms⟩ := po.game (by decide)
  have hms2 := fixed06_game hg
  rw [hms] at hms2
  subst hms2
  have hrole5 : E5.role h = .gone := po.kept.le.roleH.trans hrole
  have hmode5 : ∀ b, E5.mode b = 0 := fun b => po.kept.le.mode b (hmode b)
  have hH5 := po.rowH
  have hrow := po.row
  obtain ⟨g, cap, rfl⟩ := row_some hrow (by decide)
  have hcs := row_cells hrow
  have hgH := hH5 g rfl
  have hK5 := hK4.trans po.kept
  have hS5 := hS4.trans po.stands
  clear hH5 hrow po hg hms hOps hInts
  change HGn Try.prog h F E5 w5 100 _
  walk_nrm
  apply Idl.value (idl_hg Try.prog h F E5 w5) rfl rfl (by first | decide | exact Go.ConcR.Gen.base_kind _ | exact Go.ConcR.Gen.baseD_kind _ | assumption)
  focus (intro w; go_simp; (try w_num); first | done | rfl)
  focus (intro w; simp [go_sem, *])
  walk_nrm
  refine Idl.re (idl_hg Try.prog h F E5 w5) (Idl.q (idl_hg Try.prog h F E5 w5) ?_)
  rw [← hG2]
  rw [show fx2 = xf2 from rfl]
  simp only [xf2, fx2, fxBody, Try.f17, Option.getD_some]
  refine Idl.rg (idl_hg Try.prog h F E5 w5) [0, 1, 2] rfl ?_
  refine HGn.mkV (c := #[.int .i64 1, .int .i64 2, .int .i64 3]) (t := 3) (fun s => .slice (some ⟨s, 0, none⟩) 3 3) hrole5 rfl rfl (by k_ne) (fun w₁ => ⟨by kernel_rfl, by kernel_rfl⟩) (fun B5 _ => ?_)
  walk_nrm
  obtain ⟨w6, e6⟩ : ∃ w6, w6 = w5.alloc (.cells #[.int .i64 1, .int .i64 2, .int .i64 3] 3) := ⟨_, rfl⟩
  rw [← e6]
  have g6 : w6.heap[w5.heap.size]? = some (.cells #[.int .i64 1, .int .i64 2, .int .i64 3] 3) := by rw [e6]; exact alloc_new
  have hK6 : Kept h none E w E5 w6 := hK5.trans (by rw [e6]; exact kept_alloc)
  have hS56 : Stands E5 w5 E5 w6 := by rw [e6]; exact stands_alloc
  have hS6 := hS5.trans hS56
  have hcs6 : ∀ i u, (mksV [((1 : Int), (1 : Int), (0 : Int), (7 : Int)), (0, 2, 0, 5), (0, 3, 1, 6)])[i]? = some u → w6.cell? ⟨g, i, none⟩ = some u := fun i u hu => (hS56.cell (hcs i u hu) hgH).1
  clear e6 hcs
  skip
  refine Idl.callE (fn := Try.f29) (vs := #[.slice none 0 0, .slice (some ⟨w5.heap.size, 0, none⟩) 3 3, .bool true]) (idl_hg Try.prog h F E5 w6) rfl rfl (by k_ne) rfl Try.func29 rfl rfl (by simp [Act.eval]) ?_
  refine run_empty (picks := [1, 2, 3]) ⟨_, w5.heap.size, 0, 3, rfl, fun _ => rfl, fun i p hi => ?_⟩ (by decide) (by decide) hrole5 hmode5 (fun E7 w7 hK7 hS67 => ?_)
  · match i, hi with
    | 0, hi => cases hi; exact ⟨obj_cell g6 rfl, B5 _ (by omega)⟩
    | 1, hi => cases hi; exact ⟨obj_cell g6 rfl, B5 _ (by omega)⟩
    | 2, hi => cases hi; exact ⟨obj_cell g6 rfl, B5 _ (by omega)⟩
    | i + 3, hi => cases hi
  have hS7 := hS6.trans hS67
  have hcs7 : ∀ i u, (mksV [((1 : Int), (1 : Int), (0 : Int), (7 : Int)), (0, 2, 0, 5), (0, 3, 1, 6)])[i]? = some u → w7.cell? ⟨g, i, none⟩ = some u ∧ E7.H g = none := fun i u hu => hS67.cell (hcs6 i u hu) hgH
  have hgH7 := (hcs7 0 _ rfl).2
  clear g6 hcs6
  change HGn Try.prog h F E7 w7 100 _
  walk_nrm
  apply Idl.value (idl_hg Try.prog h F E7 w7) rfl rfl (by first | decide | exact Go.ConcR.Gen.base_kind _ | exact Go.ConcR.Gen.baseD_kind _ | assumption)
  focus (intro w; go_simp; (try w_num); first | done | rfl)
  focus (intro w; simp [go_sem, *])
  walk_nrm
  refine Idl.re (idl_hg Try.prog h F E7 w7) (Idl.q (idl_hg Try.prog h F E7 w7) ?_)
  refine HG.quietS (fun _ => False) (fun _ z => z.elim) (closed_none _) (Q := fun a' x x' => a'.tmps.size = 34 ∧ a'.tmps[0]? = some (.bool true) ∧ x' = x) (by rw [← hG3]; kernel_rfl) (by rfl) rfl (fun x hxs hx => ?_) (fun E8 w8 a8 x x' hE hd hxs hx hxs' hx' hK8 hB hS hq => ?_)
  · rw [← hG3]
    refine fx3_wpT (g := g) (cap := cap) (by simp) (by simp) (by simp) (fun i u hu => (World.cell?_of_block (hx g hgH7)).trans (hcs7 i u hu).1) (fun T' q1 q2 => ⟨rfl, rfl, fun _ _ _ => rfl, q1, q2, rfl⟩)
  · obtain ⟨Ta, df⟩ := a8
    have hd' : df = [] := hd
    subst hd'
    obtain ⟨q1, q2, rfl⟩ := hq
    have hS8 : Stands E7 w7 E8 w8 := fun b o h1 h2 => ⟨by rw [hE.H']; exact h1, by rw [hx' b h1, hx b h1]; exact h2⟩
    have hcc := hc E8 w8 ((hK6.trans hK7).trans hK8) (hS7.trans hS8)
    obtain ⟨f2, hf2, fz⟩ := arrfv Ta q1
    have e0 := fz 0 _ q2
    clear fz
    subst hf2
    simp only [List.range, List.range.loop, List.map_cons, List.map_nil, e0]
    change HGn Try.prog h F E8 w8 100 _
    refine Idl.rt (idl_hg Try.prog h F E8 w8) ?_
    refine Idl.leave1 (n := 1) (idl_hg Try.prog h F E8 w8) rfl rfl Try.func17 rfl ?_
    exact hcc
#print axioms fixed06_holds
end
end Go.Proofs.Ytimlbbleblijnaa.Co

namespace Go.Proofs.Ytimlbbleblijnaa.Co
open Go Go.Conc Go.RowKit
set_option linter.unusedVariables false
set_option linter.unusedSimpArgs false
theorem stepG_done {P : Program} {b : Frame} {a : Act} {fn : Func} {todo : List Item} {w : World} {t : Tmp} (hn : b.kind = .normal) (hd : a.defers = []) (hf : P.funcs[b.fn]? = some fn) (hr : fn.results = #[.tmp t]) (hin : P.inits.idxOf? b.fn = none) :
    stepG P true (G { b.at a todo with mode := .returning } []) w = .ended (.done (a.tmps.getD t undef)) w #[] := by
  have h1 := results_tmp (fn := fn) hr a.tmps P w
  have h2 := fun es => events_results_tmp (fn := fn) (P := P) (w := w) hr a.tmps es
  simp [G, stepG, unwind, doReturn, Frame.at, hn, hd, hf, h1, h2, hin, seen, GStep.after]
def FinF (P : Program) (Post : Value → World → Prop) (m : Machine) (T : Trace) : Prop :=
  ∃ N last o w' t', runNT P (N + 1) m T = (.ended o w', t') ∧ runN P N m = .next last ∧ step P last = .ended o w' ∧ Go.Conc.Good P Post last o w' t'
section
variable {P : Program} {E : Env} {w : World} {Post : Value → World → Prop}
theorem HG.done {b : Frame} {a : Act} {fn : Func} {todo : List Item} {t : Tmp} {v : Value} (hn : b.kind = .normal) (hd : a.defers = []) (hf : P.funcs[b.fn]? = some fn) (hr : fn.results = #[.tmp t]) (hin : P.inits.idxOf? b.fn = none) (hv : a.tmps[t]? = some v) (hgone : ∀ i, 0 < i → E.role i = .gone)
    (hpost : ∀ w', SameIo E.io w' → Aw E.W w w' → Post v w') : HG P 0 (FinF P Post) E (G { b.at a todo with mode := .returning } []) w := by
  intro E' w' gs T q sl hA C ha
  have hret : AtRet P Post E' (G { b.at a todo with mode := .returning } []) w' := by
    refine ⟨rfl, fun i hi => hA.1.gone i (hgone i hi), fun w2 h2 => ⟨_, _, stepG_done hn hd hf hr hin, fun e he => by simp at he, ?_⟩⟩
    rw [show a.tmps.getD t undef = v by simp [Array.getD_eq_getD_getElem?, hv]]
    have hW : E'.W = E.W := hA.1.W'
    rw [hW] at h2
    refine hpost w2 ?_ (hA.2.trans _ _ _ h2)
    have h3 := C.io
    rw [hA.1.io] at h3
    exact h3.trans ⟨h2.os, h2.output⟩
  obtain ⟨N, last, o, w2, t2, h1, h2, h3, h4⟩ := C.ends ha hret (sl := sl)
  exact ⟨0, _, _, rfl, N, last, o, w2, t2, h1, h2, h3, h4⟩
theorem hg_run {g : Goroutine} {W : World} (hg : HG P 0 (FinF P Post) (Env.zero W) g W) : ∃ M last o w' t', runNT P (M + 1) (solo g W) #[] = (.ended o w', t') ∧ runN P M (solo g W) = .next last ∧ step P last = .ended o w' ∧ Go.Conc.Good P Post last o w' t' := by
  obtain ⟨N, m', T', h1, N2, last, o, w', t', k1, k2, k3, k4⟩ := hg (Env.zero W) W #[g] #[] (fun _ => 0) none ⟨.refl 0 _, Aw.refl _ _⟩ (Co.start P g W) rfl
  refine ⟨N + N2, last, o, w', t', ?_, ?_, k3, k4⟩
  · have := runNT_add P N (N2 + 1) (crowd #[g] W none) #[]
    rw [h1] at this
    show runNT P (N + (N2 + 1)) (crowd #[g] W none) #[] = _
    rw [this]
    exact k1
  · have h5 : runN P N (crowd #[g] W none) = .next m' := by rw [← runNT_fst _ _ _ #[], h1]
    show runN P (N + N2) (crowd #[g] W none) = _
    rw [runN_add, h5]
    exact k2
theorem below_end {W w' w2 : World} {E' : Env} (hk : Kept 0 none (Env.zero W) W E' w') (hs : Stands (Env.zero W) W E' w') (hio : SameIo E'.io w2) (hA : Aw E'.W w' w2) : Below W.heap.size W { w2 with tape := W.tape } := by
  have h1 : E'.io = W := hk.le.io
  rw [h1] at hio
  have hWn : ∀ b, b < W.heap.size → E'.W b = false := fun b hb => by
    cases e : E'.W b with
    | false => rfl
    | true =>
      rcases hk.WN b e with z | z
      · cases z
      · omega
  refine ⟨hio.1, rfl, hio.2, ?_, fun b hb => ?_⟩
  · show W.heap.size ≤ w2.heap.size
    rw [hA.size]; exact hk.size
  · show w2.heap[b]? = _
    rw [hA.heap b (hWn b hb)]
    cases e : (Env.zero W).H b with
    | some n => exact hk.heap b n e rfl (by simp) hb
    | none => rw [(hs b _ e (Array.getElem?_eq_getElem hb)).2, Array.getElem?_eq_getElem hb]
theorem law_good {f : FuncId} {fn : Func} {t : Tmp} {args : Array Value} {W : World} {v : Value} (hf : P.funcs[f]? = some fn) (hb : fn.body.isSome = true) (hr : fn.results = #[.tmp t]) (hin : P.inits.idxOf? f = none)
    (hg : ∀ F, (∀ E' w' T todo, Kept 0 none (Env.zero W) W E' w' → Stands (Env.zero W) W E' w' → T[t]? = some v → HG P 0 F E' (G { (base f).at ⟨T, []⟩ todo with mode := .returning } []) w') → HG P 0 F (Env.zero W) (entry f fn args []) W)
    (hpost : ∀ w2, Below W.heap.size W { w2 with tape := W.tape } → Post v w2) :
    ∃ M last o w' t', runNT P (M + 1) (solo (G (Frame.enter P f args .normal) []) W) #[] = (.ended o w', t') ∧ runN P M (solo (G (Frame.enter P f args .normal) []) W) = .next last ∧ step P last = .ended o w' ∧ Go.Conc.Good P Post last o w' t' := by
  cases hb' : fn.body with
  | none => rw [hb'] at hb; cases hb
  | some c =>
    rw [enter_at args hf hb']
    refine hg_run ?_
    have := hg (FinF P Post) (fun E' w' T todo hk hs hv => HG.done (b := base f) (a := ⟨T, []⟩) rfl rfl hf hr hin hv (fun i hi => hk.le.gone i rfl) (fun w2 h1 h2 => hpost w2 (below_end hk hs h1 h2)))
    unfold entry at this
    rw [hb'] at this
    exact this
end
section
variable {H : Type} {enc : TypeId × Value → H}
theorem post_tape {P : Program} {f : Func} {s : ChangeSpec} {apart fresh handsOn : Bool} {W W' : World} {args : Array Value} {v : Value} (tp : Tape)
    (h : s.post enc P f apart fresh handsOn false W args v { W' with tape := tp }) : s.post enc P f apart fresh handsOn false W args v W' := by
  obtain ⟨ds, gs, before, pr, pa, pv, h1, h2, h3, h4, h5, h6⟩ := h
  exact ⟨ds, gs, before, pr, pa, pv, h1, h2.of_heap (by rfl), h3.of_heap (by rfl), h4.of_heap (by rfl), h5, fun ha => (by cases ha)⟩
end
#print axioms law_good
end Go.Proofs.Ytimlbbleblijnaa.Co

namespace Go.Proofs.Ytimlbbleblijnaa.Co
open Go Go.Conc Go.RowKit
set_option linter.unusedVariables false
set_option linter.unusedSimpArgs false
noncomputable def xR3 : Code := fR3
noncomputable def xR6 : Code := fR6
def onlyRound : FuncId → Bool := fun f => f == 26
theorem closed_round : Closed Try.prog onlyRound := by
  refine ⟨fun f hf => ?_, fun f fn c hf hfn hb => ?_⟩
  · have : f = 26 := by simpa [onlyRound] using hf
    subst this
    exact ⟨Try.f26, Try.func26, by kernel_rfl, .inl (by rfl)⟩
  · have : f = 26 := by simpa [onlyRound] using hf
    subst this
    rw [Try.func26] at hfn
    obtain rfl := Option.some.inj hfn
    have h2 : Try.f26.body = some (Try.f26.body.getD .skip) := by rfl
    rw [h2] at hb
    obtain rfl := Option.some.inj hb
    show quietCode Try.prog onlyRound (Try.f26.body.getD .skip) = true
    kernel_rfl
theorem fair_loop1T {T : Array Value} {x : World} {ts : List (List Op3)} {picks : List Int} {ms : List Mk} {ab ba bo cap pb po pcap mcap g : Nat} {ta pa A : Option Addr} {LA : Nat → Option Addr} {LC : Nat → Nat} {Q : Exit → Act → World → Prop} (hs : T.size = 166)
    (h0 : T[0]? = some (.slice ta ts.length cap)) (h1 : T[1]? = some (.slice pa picks.length pcap)) (h8 : T[8]? = some (.slice A ms.length mcap)) (h9 : T[9]? = some (.slice (some ⟨ab, 0, none⟩) ts.length ts.length)) (h10 : T[10]? = some (.int .i64 0))
    (hta : 0 < ts.length → ta = some ⟨ba, bo, none⟩) (hpa : 0 < picks.length → pa = some ⟨pb, po, none⟩) (hA : 0 < ms.length → A = some ⟨g, 0, none⟩)
    (hts : ∀ i l, ts[i]? = some l → x.cell? ⟨ba, bo + i, none⟩ = some (.slice (LA i) l.length (LC i)) ∧ (l ≠ [] → ∃ la lo, LA i = some ⟨la, lo, none⟩ ∧ la ≠ ab ∧ ∀ j op, l[j]? = some op → x.cell? ⟨la, lo + j * 3 + 2, none⟩ = some (.int .i64 op.2.2)))
    (hps : ∀ i p, picks[i]? = some p → x.cell? ⟨pb, po + i, none⟩ = some (.int .i64 p)) (hms : ∀ i u, (mksV ms)[i]? = some u → x.cell? ⟨g, i, none⟩ = some u)
    (hab : x.heap[ab]? = some (.cells ((List.range ts.length).map fun t => .int .i64 (0 : Int)).toArray 3)) (d1 : ba ≠ ab) (d2 : pb ≠ ab) (d3 : g ≠ ab)
    (hok : okMs ts picks ms) (hn : ts.length ≤ 8) (hml : ms.length ≤ 1000000000000) (hpl : picks.length ≤ 1000000000000) (hll : ∀ l ∈ ts, l.length ≤ 1000000000000) (hp64 : ∀ p ∈ picks, -9223372036854775808 ≤ p ∧ p ≤ 9223372036854775807)
    (hk64 : lastK ms ≤ 1000000000000000000)
    (hQ : ∀ T' x', T'.size = 166 → (∀ j, j < 10 → j ≠ 6 → T'[j]? = T[j]?) → T'[10]? = some (.int .i64 (lastK ms)) → AtRow x x' ab ts.length (cntT ms) → Q .normal ⟨T', []⟩ x') :
    fL1.wp Try.prog Q ⟨T, []⟩ x := by
  obtain ⟨f, hf, fz⟩ := arrfv T hs
  have e0 := fz 0 _ h0
  have e1 := fz 1 _ h1
  have e8 := fz 8 _ h8
  have e9 := fz 9 _ h9
  have e10 := fz 10 _ h10
  subst hf
  exact fair_loop1 e0 e1 e8 e9 e10 hta hpa hA hts hps hms hab d1 d2 d3 hok hn hml hpl hll hp64 hk64 (fun T' x' a b c d => hQ T' x' a (fun j hj h6 => by rw [b j hj h6, arrf_get f (by omega)]) c d)
theorem fair_loop2T {T : Array Value} {x : World} {n : Nat} {ab ba bo cap : Nat} {ta : Option Addr} {LA : Nat → Option Addr} {LN LC c : Nat → Nat} {drain : Bool} {Q : Exit → Act → World → Prop} (hs : T.size = 166)
    (h0 : T[0]? = some (.slice ta n cap)) (h2 : T[2]? = some (.bool drain)) (h9 : T[9]? = some (.slice (some ⟨ab, 0, none⟩) n n)) (hn : n ≤ 8)
    (hta : 0 < n → ta = some ⟨ba, bo, none⟩) (hts : ∀ t, t < n → x.cell? ⟨ba, bo + t, none⟩ = some (.slice (LA t) (LN t) (LC t))) (hat : ∀ t, t < n → x.cell? ⟨ab, t, none⟩ = some (.int .i64 (c t : Int)))
    (hd : drain = true → ∀ t, t < n → c t = LN t)
    (hQ : ∀ T' x', T'.size = 166 → (∀ j, j < 13 → j ≠ 6 → T'[j]? = T[j]?) → x'.heap = x.heap → Q .normal ⟨T', []⟩ x') : fL2.wp Try.prog Q ⟨T, []⟩ x := by
  obtain ⟨f, hf, fz⟩ := arrfv T hs
  have e0 := fz 0 _ h0
  have e2 := fz 2 _ h2
  have e9 := fz 9 _ h9
  subst hf
  exact fair_loop2 e0 e2 e9 hn hta hts hat hd (fun T' x' a b c => hQ T' x' a (fun j hj h6 => by rw [b j hj h6, arrf_get f (by omega)]) c)
theorem fR22_wpT {T : Array Value} {x : World} {pa : Option Addr} {np pcap : Nat} {lk : Int} {drain : Bool} {Q : Exit → Act → World → Prop} (hs : T.size = 166) (h7 : T[7]? = some (.bool true)) (h2 : T[2]? = some (.bool drain)) (h10 : T[10]? = some (.int .i64 lk)) (h1 : T[1]? = some (.slice pa np pcap))
    (hd : drain = false → lk ≤ (np : Int))
    (hQ : ∀ T', T'.size = 166 → T'[6]? = some (.bool true) → Q .normal ⟨T', []⟩ x) : fR22.wp Try.prog Q ⟨T, []⟩ x := by
  obtain ⟨f, hf, fz⟩ := arrfv T hs
  have e7 := fz 7 _ h7
  have e2 := fz 2 _ h2
  have e10 := fz 10 _ h10
  have e1 := fz 1 _ h1
  subst hf
  exact fR22_wp e7 e2 e10 e1 hd hQ
section
variable {F : Machine → Trace → Prop} {E : Env} {w : World}
set_option maxRecDepth 100000 in
set_option maxHeartbeats 4000000 in
theorem fair_t5 {ts : List (List Op3)} {picks : List Int} {ms : List Mk} {drain : Bool} {tv pv : Value} {A : Option Addr} {mcap B : Nat} {T : Array Value} (hs : T.size = 166)
    (t0 : T[0]? = some tv) (t1 : T[1]? = some pv) (t2 : T[2]? = some (.bool drain)) (t7 : T[7]? = some (.bool true)) (t8 : T[8]? = some (.slice A ms.length mcap))
    (hT : OpsAt E w tv ts) (hP : IntsAt E w pv picks) (hrow : w.ownsRow B 37 4 (.slice A ms.length mcap) ms.length (mksV ms)) (hrowH : ∀ g, (Value.slice A ms.length mcap).ownBlock = some g → E.H g = none)
    (hok : okMs ts picks ms) (hdr : drain = true → ∀ t, t < ts.length → cntT ms t = lenOf ts t) (hnd : drain = false → lastK ms ≤ (picks.length : Int)) (hk64 : lastK ms ≤ 1000000000000000000)
    (hn : ts.length ≤ 8) (hml : ms.length ≤ 1000000000000) (hpl : picks.length ≤ 1000000000000) (hll : ∀ l ∈ ts, l.length ≤ 1000000000000) (hp64 : ∀ p ∈ picks, -9223372036854775808 ≤ p ∧ p ≤ 9223372036854775807)
    (hc : ∀ E' w' T todo, Kept 0 none E w E' w' → Stands E w E' w' → T[6]? = some (.bool true) → HG Try.prog 0 F E' (G { (base 4).at ⟨T, []⟩ todo with mode := .returning } []) w') :
    HG Try.prog 0 F E (G ((base 4).at ⟨T, []⟩ [.code fT5]) []) w := by
  obtain ⟨ta, ba, bo, cap, LA, LC, rfl, hta, hts⟩ := hT.at_
  obtain ⟨pa, pb, po, pcap, rfl, hpa, hps⟩ := hP.at_
  obtain ⟨f, hf, fz⟩ := arrfv T hs
  have e0 := fz 0 _ t0
  have e1 := fz 1 _ t1
  have e2 := fz 2 _ t2
  have e7 := fz 7 _ t7
  have e8 := fz 8 _ t8
  subst hf
  clear fz t0 t1 t2 t7 t8 hs
  change HGn Try.prog 0 F E w 100 _
  rw [fT5_parts]
  refine Idl.step (idl_hg Try.prog 0 F E w) _ _ _ rfl (fun _ => stepG_seq) ?_
  refine HG.quietS (fun _ => False) (fun _ z => z.elim) (closed_none _) (Q := fun a' x x' => a'.tmps.size = 166 ∧ (∀ j, j < 12 → j ≠ 9 → a'.tmps[j]? = some (f j)) ∧ a'.tmps[9]? = some (.slice (some ⟨x.heap.size, 0, none⟩) ts.length ts.length) ∧ x'.heap = x.heap.push (.cells ((List.range ts.length).map fun t => .int .i64 (0 : Int)).toArray 3)) (by kernel_rfl) (by rfl) rfl (fun x hxs hx => ?_) (fun E1 w1 a1 x x' hE hd hxs hx hxs' hx' hK hB hS hq => ?_)
  · refine fR5_wp e0 hn (fun T' x' q1 q2 q3 q4 => ⟨rfl, rfl, fun b hb _ => ?_, q1, q2, q3, q4⟩)
    rw [q4, Array.getElem?_push, if_neg (by omega)]
  obtain ⟨Ta, df⟩ := a1
  have hd' : df = [] := hd
  subst hd'
  obtain ⟨q1, q2, q3, q4⟩ := hq
  dsimp only at q1 q2 q3
  rw [hxs] at q3
  have hH1 : E1.H = E.H := hE.H'
  have hS1 : Stands E w E1 w1 := fun b o h1 h2 => ⟨by rw [hH1]; exact h1, by
    have hl := (Array.getElem?_eq_some_iff.1 h2).1
    rw [hx' b h1, hS b (by omega) id, hx b h1]; exact h2⟩
  obtain ⟨ab, habe⟩ : ∃ ab, ab = w.heap.size := ⟨_, rfl⟩
  rw [← habe] at q3
  have habH : E1.H ab = none := by rw [hH1]; exact hB ab (by omega)
  have hab : w1.heap[ab]? = some (.cells ((List.range ts.length).map fun t => .int .i64 (0 : Int)).toArray 3) := by
    rw [hx' _ (hB _ (by omega)), q4, Array.getElem?_push, if_pos (by omega)]
  obtain ⟨f1, hf1, fz⟩ := arrfv Ta q1
  have k0 := (fz 0 _ (q2 0 (by decide) (by decide))).trans e0
  have k1 := (fz 1 _ (q2 1 (by decide) (by decide))).trans e1
  have k2 := (fz 2 _ (q2 2 (by decide) (by decide))).trans e2
  have k7 := (fz 7 _ (q2 7 (by decide) (by decide))).trans e7
  have k8 := (fz 8 _ (q2 8 (by decide) (by decide))).trans e8
  have k9 := fz 9 _ q3
  subst hf1
  clear fz q1 q2 q3 q4
  have r6 : fR6 = xR6 := rfl
  change HGn Try.prog 0 F E1 w1 100 _
  generalize hG1 : fL1 = G1
  generalize hG2 : fL2 = G2
  generalize hG3 : fR22 = G3
  rw [r6]
  simp only [xR6, fR6, fT5, fTail, fBody, Try.f4, Option.getD_some, List.range, List.range.loop, List.map_cons, List.map_nil, k0, k1, k2, k7, k8, k9]
  refine Idl.q (idl_hg Try.prog 0 F E1 w1) (Idl.rg (idl_hg Try.prog 0 F E1 w1) [0] rfl ?_)
  apply Idl.value (idl_hg Try.prog 0 F E1 w1) rfl rfl (by first | decide | exact Go.ConcR.Gen.base_kind _ | exact Go.ConcR.Gen.baseD_kind _ | assumption)
  focus (intro w; go_simp; (try w_num); first | done | rfl)
  focus (intro w; simp [go_sem, *])
  walk_nrm
  refine Idl.re (idl_hg Try.prog 0 F E1 w1) (Idl.q (idl_hg Try.prog 0 F E1 w1) ?_)
  obtain ⟨g, hg0⟩ : ∃ g, 0 < ms.length → A = some ⟨g, 0, none⟩ := by
    by_cases h0 : 0 < ms.length
    · obtain ⟨g, c, e⟩ := row_some hrow h0
      injection e with e1
      exact ⟨g, fun _ => e1⟩
    · exact ⟨0, fun h => absurd h h0⟩
  have hcs : ∀ i u, (mksV ms)[i]? = some u → w.cell? ⟨g, i, none⟩ = some u ∧ E.H g = none := fun i u hu => by
    have h0 : 0 < ms.length := by
      rcases Nat.eq_zero_or_pos ms.length with z | z
      · rw [List.eq_nil_of_length_eq_zero z] at hu
        simp [mksV] at hu
      · exact z
    have hA := hg0 h0
    rw [hA] at hrow hrowH
    exact ⟨row_cells hrow i u hu, hrowH g rfl⟩
  have hold : ∀ {a : Addr} {v : Value} {y : World}, (∀ b, E1.H b = none → y.heap[b]? = w1.heap[b]?) → w.cell? a = some v → E.H a.block = none → y.cell? a = some v ∧ a.block ≠ ab := fun {a v y} hy h1 h2 => by
    obtain ⟨s1, s2⟩ := hS1.cell h1 h2
    exact ⟨(World.cell?_of_block (hy _ s2)).trans s1, by have := World.block_lt_of_cell? w _ h1; omega⟩
  refine HG.quietS (fun b => b = ab) (fun b hb => by rw [hb]; exact habH) closed_round (Q := fun a' x x' => a'.tmps.size = 166 ∧ (a'.tmps[0]? = some (.slice ta ts.length cap) ∧ a'.tmps[1]? = some (.slice pa picks.length pcap) ∧ a'.tmps[2]? = some (.bool drain) ∧ a'.tmps[7]? = some (.bool true) ∧ a'.tmps[9]? = some (.slice (some ⟨ab, 0, none⟩) ts.length ts.length)) ∧ a'.tmps[10]? = some (.int .i64 (lastK ms)) ∧ AtRow x x' ab ts.length (cntT ms)) (by rw [← hG1]; kernel_rfl) (by rfl) rfl (fun y hys hy => ?_) (fun E2 w2 a2 y y' hE2 hd2 hys hy hys' hy' hK2 hB2 hS2 hq2 => ?_)
  · rw [← hG1]
    have hyc : ∀ {a : Addr} {u : Value}, w.cell? a = some u → E.H a.block = none → y.cell? a = some u ∧ a.block ≠ ab := fun h1 h2 => hold hy h1 h2
    obtain ⟨ba', hba⟩ : ∃ ba', ba' ≠ ab ∧ (0 < ts.length → ba' = ba) := by
      by_cases h0 : 0 < ts.length
      · obtain ⟨l, hl⟩ : ∃ l, ts[0]? = some l := ⟨_, List.getElem?_eq_getElem h0⟩
        obtain ⟨⟨c1, c2⟩, _⟩ := hts 0 l hl
        exact ⟨ba, (hyc c1 c2).2, fun _ => rfl⟩
      · exact ⟨ab + 1, by omega, fun h => absurd h h0⟩
    obtain ⟨pb', hpb⟩ : ∃ pb', pb' ≠ ab ∧ (0 < picks.length → pb' = pb) := by
      by_cases h0 : 0 < picks.length
      · obtain ⟨c1, c2⟩ := hps 0 _ (List.getElem?_eq_getElem h0)
        exact ⟨pb, (hyc c1 c2).2, fun _ => rfl⟩
      · exact ⟨ab + 1, by omega, fun h => absurd h h0⟩
    obtain ⟨g', hg'⟩ : ∃ g', g' ≠ ab ∧ (0 < ms.length → g' = g) := by
      by_cases h0 : 0 < ms.length
      · have hl : 0 < (mksV ms).length := by
          cases ms with
          | nil => cases h0
          | cons m ms => simp [mksV, mkV]
        obtain ⟨c1, c2⟩ := hcs 0 _ (List.getElem?_eq_getElem hl)
        exact ⟨g, (hyc c1 c2).2, fun _ => rfl⟩
      · exact ⟨ab + 1, by omega, fun h => absurd h h0⟩
    refine fair_loop1T (ts := ts) (picks := picks) (ms := ms) (ba := ba') (bo := bo) (pb := pb') (po := po) (g := g') (LA := LA) (LC := LC) (ta := ta) (cap := cap) (pa := pa) (pcap := pcap) (A := A) (mcap := mcap) (by simp) (by simp) (by simp) (by simp) (by simp) (by simp) (fun h => by rw [hta h, hba.2 h]) (fun h => by rw [hpa (List.length_pos_iff.1 h), hpb.2 h]) (fun h => by rw [hg0 h, hg'.2 h]) (fun i l hi => ?_) (fun i p hi => ?_) (fun i u hu => ?_) ((hy ab habH).trans hab) hba.1 hpb.1 hg'.1 hok hn hml hpl hll hp64 hk64 (fun T' x' a1 a2 a3 a4 => ⟨rfl, rfl, fun b hb hne => a4.old b hne, a1, ⟨?_, ?_, ?_, ?_, ?_⟩, a3, a4⟩)
    · have hi' : 0 < ts.length := by have := (List.getElem?_eq_some_iff.1 hi).1; omega
      obtain ⟨⟨c1, c2⟩, c3⟩ := hts i l hi
      rw [hba.2 hi']
      refine ⟨(hyc c1 c2).1, fun hne => ?_⟩
      obtain ⟨la, lo, e1', e2', e3'⟩ := c3 hne
      refine ⟨la, lo, e1', ?_, fun j op hj => (hyc (e3' j op hj).2.2 e2').1⟩
      cases l with
      | nil => exact absurd rfl hne
      | cons op l => exact (hyc (e3' 0 op rfl).1 e2').2
    · have hi' : 0 < picks.length := by have := (List.getElem?_eq_some_iff.1 hi).1; omega
      rw [hpb.2 hi']
      exact (hyc (hps i p hi).1 (hps i p hi).2).1
    · have hi' : 0 < ms.length := by
        rcases Nat.eq_zero_or_pos ms.length with z | z
        · rw [List.eq_nil_of_length_eq_zero z] at hu
          simp [mksV] at hu
        · exact z
      rw [hg'.2 hi']
      exact (hyc (hcs i u hu).1 (hcs i u hu).2).1
    · rw [a2 0 (by decide) (by decide)]; simp
    · rw [a2 1 (by decide) (by decide)]; simp
    · rw [a2 2 (by decide) (by decide)]; simp
    · rw [a2 7 (by decide) (by decide)]; simp
    · rw [a2 9 (by decide) (by decide)]; simp
  · obtain ⟨Tb, df⟩ := a2
    have hd' : df = [] := hd2
    subst hd'
    obtain ⟨q1, ⟨z0, z1, z2, z7, z9⟩, z10, hat⟩ := hq2
    dsimp only at q1 z0 z1 z2 z7 z9 z10
    have hH2 : E2.H = E.H := by rw [hE2.H', hH1]
    have hS12 : Stands E w E2 w2 := fun b o h1 h2 => ⟨by rw [hH2]; exact h1, by
      have hl := (Array.getElem?_eq_some_iff.1 h2).1
      obtain ⟨s1, s2⟩ := hS1 b o h1 h2
      rw [hy' b s1, hat.old b (by omega), hy b s1]
      exact s2⟩
    have hat2 : ∀ t, t < ts.length → w2.cell? ⟨ab, t, none⟩ = some (.int .i64 (cntT ms t : Int)) := fun t ht => (World.cell?_of_block (hy' ab habH)).trans (hat.cell ht)
    have hK12 : Kept 0 none E w E2 w2 := hK.trans hK2
    have habH2 : E2.H ab = none := by rw [hE2.H']; exact habH
    clear hat hS2 hy' hy hys hys' hK2 hB2
    change HGn Try.prog 0 F E2 w2 100 _
    refine Idl.step (idl_hg Try.prog 0 F E2 w2) _ _ _ rfl (fun _ => stepG_seq) ?_
    refine HG.quietS (fun _ => False) (fun _ z => z.elim) (closed_none _) (Q := fun a' x x' => a'.tmps.size = 166 ∧ (∀ j, j < 13 → j ≠ 6 → a'.tmps[j]? = Tb[j]?) ∧ x'.heap = x.heap) (by rw [← hG2]; kernel_rfl) (by rfl) rfl (fun v hvs hv => ?_) (fun E3 w3 a3 v v' hE3 hd3 hvs hv hvs' hv' hK3 hB3 hS3 hq3 => ?_)
    · rw [← hG2]
      have hvc : ∀ {a : Addr} {u : Value}, w2.cell? a = some u → E2.H a.block = none → v.cell? a = some u := fun h1 h2 => (World.cell?_of_block (hv _ h2)).trans h1
      refine fair_loop2T (ba := ba) (bo := bo) (LA := LA) (LN := fun t => lenOf ts t) (LC := LC) (c := cntT ms) q1 z0 z2 z9 hn hta (fun t ht => ?_) (fun t ht => hvc (hat2 t ht) habH2) hdr (fun T' x' p1 p2 p3 => ⟨rfl, rfl, fun b hb _ => by rw [p3], p1, p2, p3⟩)
      obtain ⟨l, hl⟩ : ∃ l, ts[t]? = some l := ⟨_, List.getElem?_eq_getElem ht⟩
      have hle : lenOf ts t = l.length := by unfold lenOf; rw [hl]; rfl
      obtain ⟨⟨c1, c2⟩, _⟩ := hts t l hl
      obtain ⟨s1, s2⟩ := hS12.cell c1 c2
      rw [hle]
      exact hvc s1 s2
    · obtain ⟨Tc, df⟩ := a3
      have hd' : df = [] := hd3
      subst hd'
      obtain ⟨p1, p2, p3⟩ := hq3
      dsimp only at p1 p2
      have hS13 : Stands E w E3 w3 := hS12.trans (fun b o h1 h2 => ⟨by rw [hE3.H']; exact h1, by rw [hv' b h1, p3, hv b h1]; exact h2⟩)
      have y1 := (p2 1 (by decide) (by decide)).trans z1
      have y2 := (p2 2 (by decide) (by decide)).trans z2
      have y7 := (p2 7 (by decide) (by decide)).trans z7
      have y10 := (p2 10 (by decide) (by decide)).trans z10
      change HGn Try.prog 0 F E3 w3 100 _
      refine Idl.step (idl_hg Try.prog 0 F E3 w3) _ _ _ rfl (fun _ => stepG_seq) ?_
      refine HG.quietS (fun _ => False) (fun _ z => z.elim) (closed_none _) (Q := fun a' x x' => a'.tmps.size = 166 ∧ a'.tmps[6]? = some (.bool true) ∧ x' = x) (by rw [← hG3]; kernel_rfl) (by rfl) rfl (fun u hus hu => ?_) (fun E4 w4 a4 u u' hE4 hd4 hus hu hus' hu' hK4 hB4 hS4 hq4 => ?_)
      · rw [← hG3]
        exact fR22_wpT p1 y7 y2 y10 y1 hnd (fun T' r1 r2 => ⟨rfl, rfl, fun _ _ _ => rfl, r1, r2, rfl⟩)
      · obtain ⟨Td, df⟩ := a4
        have hd' : df = [] := hd4
        subst hd'
        obtain ⟨r1, r2, rfl⟩ := hq4
        have hS14 : Stands E w E4 w4 := hS13.trans (fun b o h1 h2 => ⟨by rw [hE4.H']; exact h1, by rw [hu' b h1, hu b h1]; exact h2⟩)
        change HGn Try.prog 0 F E4 w4 100 _
        refine Idl.step (idl_hg Try.prog 0 F E4 w4) _ _ _ rfl (fun _ => stepG_ret') ?_
        exact hc E4 w4 Td _ ((hK12.trans hK3).trans hK4) hS14 r2
end
end Go.Proofs.Ytimlbbleblijnaa.Co
