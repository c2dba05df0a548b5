/- Lemmas for the laws of this seat, laid together of Sf. -/
import Derived.Test.YtpiegngjpnpohaaGreatL15

namespace Go.Proofs.YtpiegngjpnpohaaGreat.So
open Go.RowKit Go.Proofs.YtpiegngjpnpohaaGreat.La Go.Proofs.YtpiegngjpnpohaaGreat.Sl Go.Proofs.YtpiegngjpnpohaaGreat.Ck Go.Proofs.YtpiegngjpnpohaaGreat.Rc Go.Proofs.YtpiegngjpnpohaaGreat.Rk Go.Proofs.YtpiegngjpnpohaaGreat.Wi Go.Proofs.YtpiegngjpnpohaaGreat.Fb Go.Proofs.YtpiegngjpnpohaaGreat.Mg Go.Proofs.YtpiegngjpnpohaaGreat.Sn
set_option linter.unusedVariables false
def bulkV (v : Vv) : Nat := 1 + v.cs.length + v.d.l.length
def bulk (vs : List Vv) : Nat := (vs.map bulkV).sum
def bulks (ss : List Ss) : Nat := (ss.map fun s => bulk s.vs).sum
theorem bulk_succ {vs : List Vv} {k : Nat} (h : k < vs.length) : bulk (vs.take (k + 1)) = bulk (vs.take k) + bulkV vs[k] := by
  unfold bulk
  rw [List.take_succ_eq_append_getElem h, List.map_append, List.sum_append]
  rfl
theorem bulks_succ {ss : List Ss} {i : Nat} (h : i < ss.length) : bulks (ss.take (i + 1)) = bulks (ss.take i) + bulk ss[i].vs := by
  unfold bulks
  rw [List.take_succ_eq_append_getElem h, List.map_append, List.sum_append]
  rfl
theorem reach_num : reachBytes ≤ 140737488355328 := by decide
theorem few_num (L : Int) (nc nl : Nat) (h1 : nc * 16 ≤ 140737488355328) (h2 : nl * 32 ≤ 140737488355328) (hL : 0 ≤ L) (hL1 : L ≤ 1048576) :
    (0 : Int) ≤ (nc : Int) ∧ (nc : Int) ≤ 8796093022208 ∧ (0 : Int) ≤ (nl : Int) ∧ (nl : Int) ≤ 4398046511104 ∧ wrap64 (1 + (nc : Int)) = 1 + (nc : Int) ∧ wrap64 (1 + (nc : Int) + (nl : Int)) = 1 + (nc : Int) + (nl : Int) ∧
      wrap64 (L - (1 + (nc : Int) + (nl : Int))) = L - (1 + (nc : Int) + (nl : Int)) ∧ -281474976710656 ≤ L - (1 + (nc : Int) + (nl : Int)) ∧ L - (1 + (nc : Int) + (nl : Int)) ≤ 1048576 := by
  have a1 : (nc : Int) ≤ 8796093022208 := by omega
  have a2 : (nl : Int) ≤ 4398046511104 := by omega
  have b1 : (0 : Int) ≤ (nc : Int) := by omega
  have b2 : (0 : Int) ≤ (nl : Int) := by omega
  clear h1 h2
  generalize (nc : Int) = x at *
  generalize (nl : Int) = y at *
  refine ⟨b1, a1, b2, a2, ?_, ?_, ?_, ?_, ?_⟩
  · unfold wrap64; omega
  · unfold wrap64; omega
  · unfold wrap64; omega
  · omega
  · omega
theorem few_new {L : Int} {B0 Bk Bk1 nc nl : Nat} (h : L = 1048576 - (B0 : Int) - (Bk : Int)) (hb : Bk1 = Bk + (1 + nc + nl)) : L - (1 + (nc : Int) + (nl : Int)) = 1048576 - (B0 : Int) - (Bk1 : Int) := by
  subst hb
  omega
theorem bulk_mem : ∀ {vs : List Vv} {v : Vv}, v ∈ vs → bulkV v ≤ bulk vs
  | u :: vs, v, h => by
    simp only [bulk, List.map_cons, List.sum_cons]
    rcases List.mem_cons.1 h with rfl | h
    · omega
    · have := bulk_mem h
      simp only [bulk] at this
      omega
theorem bulk_len : ∀ vs : List Vv, vs.length ≤ bulk vs
  | [] => Nat.zero_le _
  | v :: vs => by
    have := bulk_len vs
    simp only [bulk, List.map_cons, List.sum_cons, List.length_cons, bulkV] at this ⊢
    omega
theorem bulks_mem : ∀ {ss : List Ss} {s : Ss}, s ∈ ss → bulk s.vs ≤ bulks ss
  | u :: ss, s, h => by
    simp only [bulks, List.map_cons, List.sum_cons]
    rcases List.mem_cons.1 h with rfl | h
    · omega
    · have := bulks_mem h
      simp only [bulks] at this
      omega
structure SsAt (ss : List Ss) (A : Option Addr) (w : World) (B : Nat) : Prop where
  c1 : ∀ i (h : i < ss.length), ∃ b off, A = some ⟨b, off, none⟩ ∧ b < B ∧ w.cell? ⟨b, off + i * 3 + 1, none⟩ = some (.slice ss[i].A ss[i].vs.length ss[i].c)
  all : ∀ s ∈ ss, SAt s w B ∧ SSz s
theorem SsAt.below {ss : List Ss} {A : Option Addr} {w w' : World} {B : Nat} (h : SsAt ss A w B) (k : Below B w w') : SsAt ss A w' B :=
  ⟨fun i hi => by obtain ⟨b, off, e, hb, hc⟩ := h.c1 i hi; exact ⟨b, off, e, hb, kc k hb hc⟩, fun s hs => ⟨(h.all s hs).1.below k, (h.all s hs).2⟩⟩
set_option maxRecDepth 100000 in
set_option maxHeartbeats 2000000 in
theorem few_any (ss : List Ss) (A : Option Addr) (c : Nat) (w : World) (h : SsAt ss A w w.heap.size) (hl : ss.length ≤ 3) :
    Calls Tryz.prog 18 #[.slice A ss.length c] w fun e w' => ∃ b, e = .returned (.bool b) ∧ (b = true → bulks ss ≤ 1048576) ∧ Below w.heap.size w w' := by
  obtain ⟨n, hn⟩ : ∃ n, n = ss.length := ⟨_, rfl⟩
  rw [← hn] at hl ⊢
  replace hn := Lib.hid hn
  replace h := Lib.hid h
  go_enter Tryz.func18, Tryz.ntmps18
  go_wp2
  go_loopw [3, 4] (fun a v wr => ∃ (i : Nat) (L : Int), a = .int .i64 L ∧ v = .int .i64 (i : Int) ∧ i ≤ n ∧ -281474976710656 ≤ L ∧ L ≤ 1048576 ∧ Hid (0 ≤ L → L = 1048576 - (bulks (ss.take i) : Int)) ∧ Below w.heap.size w wr) (fun _ v _ => n - (intOf v).toNat)
  case atStart => exact ⟨0, 1048576, rfl, rfl, Nat.zero_le _, by omega, by omega, Lib.hid (fun _ => by rw [List.take_zero]; rfl), Below.refl _ _⟩
  case round =>
    obtain ⟨i, L, rfl, rfl, hi, hL0, hL1, hL, hw⟩ := hrel
    by_cases hlt : i < n
    · have hil : i < ss.length := by rw [← hn.out]; exact hlt
      have gI : (i : Int) < (n : Int) := by omega
      have gI0 : (0 : Int) ≤ (i : Int) := by omega
      obtain ⟨s, hs⟩ : ∃ s, s = ss[i] := ⟨_, rfl⟩
      obtain ⟨m, hm⟩ : ∃ m, m = s.vs.length := ⟨_, rfl⟩
      have hall := (h.out.below hw).all s (by rw [hs]; exact List.getElem_mem hil)
      have hmI : (m : Int) ≤ 140737488355328 := by have := hall.1.len2; omega
      replace hs := Lib.hid hs
      replace hm := Lib.hid hm
      replace hall := Lib.hid hall
      go_wp2
      go_loopw [3, 5] (fun a v wk => ∃ (k : Nat) (L : Int), a = .int .i64 L ∧ v = .int .i64 (k : Int) ∧ k ≤ m ∧ -281474976710656 ≤ L ∧ L ≤ 1048576 ∧ Hid (0 ≤ L → L = 1048576 - (bulks (ss.take i) : Int) - (bulk (s.vs.take k) : Int)) ∧ Below w.heap.size w wk) (fun _ v _ => m - (intOf v).toNat)
      case atStart => exact ⟨0, L, rfl, rfl, Nat.zero_le _, hL0, hL1, Lib.hid (fun h0 => by rw [List.take_zero, hL.out h0]; simp [bulk]), hw⟩
      case round =>
        clear hL hL0 hL1
        obtain ⟨k, L, rfl, rfl, hk, hL0, hL1, hL, hwk⟩ := hrel
        have hszk := hwk.size
        obtain ⟨b, off, hA, hbB, x1⟩ := (h.out.below hwk).c1 i hil
        have hbw : b < wr.heap.size := by omega
        rw [← hs.out, ← hm.out] at x1
        subst hA
        by_cases hlt2 : k < m
        · have hkl : k < s.vs.length := by rw [← hm.out]; exact hlt2
          have gK : (k : Int) < (m : Int) := by omega
          have gK0 : (0 : Int) ≤ (k : Int) := by omega
          by_cases hneg : 0 ≤ L
          · have hav := (h.out.below hwk).all s (by rw [hs.out]; exact List.getElem_mem hil)
            obtain ⟨b2, off2, hA2, hbB2, y0, y1, y2, y3, y4, y5, y6, y7, y8, y9, y10⟩ := hav.1.vs.cells k hkl
            clear y0 y1 y2 y4 y5 y7 y8 y9 y10
            rw [hA2] at x1
            have hz := hav.2.all s.vs[k] (List.getElem_mem hkl)
            have hbk := bulk_succ hkl
            obtain ⟨v, hv⟩ : ∃ v, v = s.vs[k] := ⟨_, rfl⟩
            rw [← hv] at y3 y6 hz hbk
            obtain ⟨nc, hnc⟩ : ∃ n, n = v.cs.length := ⟨_, rfl⟩
            obtain ⟨nl, hnl⟩ : ∃ n, n = v.d.l.length := ⟨_, rfl⟩
            have z1 := hz.cs
            have z2 := hz.d.l
            rw [← hnc] at y6 z1
            rw [← hnl] at y3 z2
            obtain ⟨nc0, ncI, nl0, nlI, w1, w2, w3, r1, r2⟩ := few_num L nc nl (Nat.le_trans z1 reach_num) (Nat.le_trans z2 reach_num) hneg hL1
            have hbw2 : b2 < wr.heap.size := by omega
            have hnew : L - (1 + (nc : Int) + (nl : Int)) = 1048576 - (bulks (ss.take i) : Int) - (bulk (s.vs.take (k + 1)) : Int) := few_new (hL.out hneg) (by rw [hbk]; unfold bulkV; rw [← hnc, ← hnl])
            clear hnc hnl hv hbk hz hav z1 z2 hA2
            have r1' : -281474976710656 ≤ wrap64 (L - (1 + (nc : Int) + (nl : Int))) := by rw [w3]; exact r1
            have r2' : wrap64 (L - (1 + (nc : Int) + (nl : Int))) ≤ 1048576 := by rw [w3]; exact r2
            have hnew' := w3.trans hnew
            replace hnew := Lib.hid hnew
            replace r1 := Lib.hid r1
            replace r2 := Lib.hid r2
            replace hnew' := Lib.hid hnew'
            replace r1' := Lib.hid r1'
            replace r2' := Lib.hid r2'
            go_wp2
            go_quiet (fail)
            go_wp2
            first
              | exact ⟨⟨k + 1, _, rfl, by go_num, hlt2, r1'.out, r2'.out, Lib.hid (fun _ => hnew'.out), by first | exact below_drewN hwk _ | go_grown⟩, by simp [intOf]; omega⟩
              | exact ⟨⟨k + 1, _, rfl, by go_num, hlt2, r1.out, r2.out, Lib.hid (fun _ => hnew.out), by first | exact below_drewN hwk _ | go_grown⟩, by simp [intOf]; omega⟩
          · have hneg' : decide (0 ≤ L) = false := decide_eq_false hneg
            have hgo : Hid (0 ≤ L → L = 1048576 - (bulks (ss.take (i + 1)) : Int)) := Lib.hid (fun h0 => absurd h0 hneg)
            go_wp2
            exact ⟨⟨i + 1, _, rfl, by go_num, hlt, hL0, hL1, hgo, by go_grown⟩, by simp [intOf]; omega⟩
        · obtain rfl : k = m := by omega
          have hge : decide ((k : Int) < (k : Int)) = false := by simp
          have hgo : Hid (0 ≤ L → L = 1048576 - (bulks (ss.take (i + 1)) : Int)) := Lib.hid (fun h0 => by
            rw [bulks_succ hil, ← hs.out, hL.out h0, hm.out, List.take_length]
            omega)
          go_wp2
          exact ⟨⟨i + 1, _, rfl, by go_num, hlt, hL0, hL1, hgo, by go_grown⟩, by simp [intOf]; omega⟩
    · obtain rfl : i = n := by omega
      have hE : 0 ≤ L → bulks ss ≤ 1048576 := fun h0 => by
        have := hL.out h0
        rw [hn.out, List.take_length] at this
        omega
      replace hE := Lib.hid hE
      go_wp2
      go_ret
      exact ⟨_, rfl, fun h0 => hE.out (of_decide_eq_true h0), hw⟩
end Go.Proofs.YtpiegngjpnpohaaGreat.So
