/- strings.Replacer: build. -/
import Derived.Test.YtgjcdhcbniholaaGreatRp1
import Derived.Deep.WholeRow
import Derived.OwnWalk
import Derived.Laws.MakeOwn
namespace Go.Proofs.YtgjcdhcbniholaaGreat.Rp
open Go.RowKit
set_option linter.unusedVariables false

def natOf : Value → Nat
  | .int _ n => n.toNat
  | _ => 0

def natOf2 : Value → Nat
  | .int _ n => (n + 2).toNat
  | _ => 0

theorem ps_none {ps : List Pr} (h : (ps.map (·.1)).Nodup) {j : Nat} {p : Pr} (hj : ps[j]? = some p) : (ps.drop (j + 1)).lookup p.1 = none := by
  rw [List.lookup_eq_none_iff]
  intro r hr
  obtain ⟨i, hi, rfl⟩ := List.mem_iff_getElem.1 hr
  obtain ⟨hjl, hje⟩ := List.getElem?_eq_some_iff.1 hj
  rw [List.getElem_drop]
  have hi' : j + 1 + i < ps.length := by simp at hi; omega
  have := (List.pairwise_iff_getElem.1 h) j (j + 1 + i) (by simpa using hjl) (by simpa using hi') (by omega)
  simp only [List.getElem_map, ne_eq] at this
  rw [hje] at this
  simpa [bne, beq_eq_false_iff_ne] using fun e => this e

set_option maxRecDepth 100000 in
/-- The steps that make the table. -/
theorem table_facts : ∃ Z : Array Value, Z.size = 257 ∧
    (∀ w : World, (zeroValue 124).run Tryz.prog w = .ok (.agg Z) w) ∧
    (∀ (A : Option Addr) (n c : Nat) (w : World), (Instr.build 124 #[(1, .slice A n c)]).run Tryz.prog w = .ok (.agg (Z.setIfInBounds 256 (.slice A n c))) w) ∧
    (∀ (A : Option Addr) (n c : Nat) (w : World), ∃ Z' : Array Value, (storeCells ⟨w.heap.size, 0, none⟩ (Z.toList.set 256 (.slice A n c)) 0).run Tryz.prog (w.alloc (.cells Z 124)) = .ok () (w.alloc (.cells Z' 124)) ∧
      Z'.size = 257 ∧ (∀ i, i < 256 → Z'[i]? = some (.slice none 0 0)) ∧ Z'[256]? = some (.slice A n c)) := by
  have hinf : (Tryz.prog.info? 124).map (fun i => (i.zero, i.size)) = some (some (.agg (Array.replicate 257 (.slice none 0 0))), 257) := by kernel_rfl
  obtain ⟨hz, hs⟩ := zero_of_info hinf
  refine ⟨Array.replicate 257 (.slice none 0 0), by simp, hz, fun A n c w => by kernel_rfl, fun A n c w => ⟨(Array.replicate 257 (.slice none 0 0)).setIfInBounds 256 (.slice A n c), ?_, by simp, fun i hi => ?_, by simp⟩⟩
  · have := run_storeCells_new (P := Tryz.prog) w 124 (Array.replicate 257 (.slice none 0 0)) ((Array.replicate 257 (.slice none 0 0)).setIfInBounds 256 (.slice A n c)) (by rw [hs]; simp) (by simp) (by
      rw [Array.all_eq_true]
      intro i hi
      rw [Array.getElem_setIfInBounds (by simpa using hi)]
      split <;> simp [Value.oneCell'])
    simpa using this
  · rw [Array.getElem?_setIfInBounds_ne (by omega), Array.getElem?_replicate, if_pos (by omega)]

theorem make_facts (n : Nat) (hn : n ≤ 1000) (x : Int) (hx : x = (n : Int)) : ∃ M : Array Value, M.size = n ∧
    ∀ w : World, (Instr.makeSlice 22 (.int .i64 0) (.int .i64 x)).run Tryz.prog w = .ok (.slice (some ⟨w.heap.size, 0, none⟩) 0 n) (w.alloc (.cells M 9)) := by
  subst hx
  have hinf : (Tryz.prog.info? 9).map (fun i => (i.zero, i.size, i.bytes)) = some (some (.string ⟨#[]⟩), 1, 16) := by kernel_rfl
  obtain ⟨i0, hi0, hz0⟩ := Option.map_eq_some_iff.1 hinf
  simp only [Prod.mk.injEq] at hz0
  obtain ⟨hz0, hz1, hz2⟩ := hz0
  refine ⟨madeCells (Value.string ⟨#[]⟩).cells (((n : Int).toNat) * i0.size), by rw [size_madeCells, hz1]; simp, fun w => ?_⟩
  have := run_make (P := Tryz.prog) w 22 9 i0 _ Tryz.underlying22 hi0 hz0 .i64 .i64 0 n (Int.le_refl _) (by omega) (by rw [hz2]; omega) (by omega)
  simpa using this

set_option maxRecDepth 100000 in
set_option maxHeartbeats 4000000 in
theorem build_any (R q cap N : Nat) (ps : List Pr) (w : World) (hps : 2 ≤ ps.length) (hlen : ps.length ≤ 1000) (hnd : (ps.map (·.1)).Nodup) (hN : N = 2 * ps.length)
    (h4 : w.cell? ⟨R, 4, none⟩ = some (.slice (some ⟨q, 0, none⟩) N cap))
    (hq : ∀ j p, ps[j]? = some p → w.cell? ⟨q, 2 * j, none⟩ = some (.string (one p.1)) ∧ w.cell? ⟨q, 2 * j + 1, none⟩ = some (.string (two p.2))) :
    Calls Tryz.prog 68 #[.pointer (some ⟨R, 0, none⟩)] w fun e w' => ∃ g tv, e = .returned (.iface 125 (.pointer (some ⟨g, 0, none⟩))) ∧ Below w.heap.size w w' ∧ TabB w' w.heap.size g tv ps := by
  replace hq := Lib.hid hq
  replace hnd := Lib.hid hnd
  have t2 : ((N : Int) == 2) = false := by simp; omega
  have hNI : (N : Int) ≤ 2000 := by omega
  have hN0 : 0 < (N : Int) := by omega
  have hlR := World.block_lt_of_cell? w _ h4
  replace hN := Lib.hid hN
  go_enter Tryz.func68, Tryz.ntmps68
  go_wp2
  go_loopw [5, 4] (fun v u wr => ∃ (i j : Nat), v = .int .i64 (i : Int) ∧ Hid (i = 2 * j) ∧ i ≤ N ∧ (∃ bb, u = .bool bb ∧ Hid (bb = decide (i = 0))) ∧ w = wr) (fun v _ _ => N + 2 - natOf v)
  case atStart => exact ⟨0, 0, rfl, rfl, Nat.zero_le _, ⟨_, rfl, rfl⟩, rfl⟩
  case round =>
    obtain ⟨i, j, rfl, hij, hiN, ⟨bb, rfl, hbb⟩, hww⟩ := hrel
    subst hww
    by_cases hlt : i < N
    · have hjl : j < ps.length := by have := hN.out; have := hij.out; omega
      obtain ⟨c0, c1⟩ := hq.out j ps[j] (List.getElem?_eq_getElem hjl)
      rw [← hij.out] at c0 c1
      have s1 : (one ps[j].1).size = 1 := rfl
      have s2 : (two ps[j].2).size = 2 := rfl
      have g1 : (i : Int) < (N : Int) := by omega
      have g2 : i + 2 ≤ N := by have := hN.out; have := hij.out; omega
      have hcap := g2
      obtain ⟨o1, ho1⟩ : ∃ o1, o1 = one ps[j].1 := ⟨_, rfl⟩
      obtain ⟨o2, ho2⟩ : ∃ o2, o2 = two ps[j].2 := ⟨_, rfl⟩
      rw [← ho1] at c0 s1
      rw [← ho2] at c1 s2
      clear ho1 ho2
      go_wp2
      exact ⟨⟨i + 2, j + 1, rfl, Lib.hid (by have := hij.out; omega), g2, ⟨false, rfl, Lib.hid (by simp)⟩, trivial⟩, by simp [natOf]; omega⟩
    · obtain rfl : i = N := by omega
      obtain rfl : bb = false := by have := hbb.out; rw [this]; simp; omega
      clear hbb
      obtain ⟨Z, hZ1, hz, hbuild, hstore⟩ := table_facts
      obtain ⟨M, hM, hmk⟩ := make_facts ps.length hlen ((i : Int) / 2) (by have := hN.out; omega)
      obtain ⟨Z', hst, hZ2, hZ3, hZ4⟩ := hstore (some ⟨w.heap.size, 0, none⟩) 0 ps.length (w.alloc (.cells M 9))
      simp only [World.size_alloc] at hst
      replace hZ2 := Lib.hid hZ2
      replace hZ3 := Lib.hid hZ3
      replace hZ4 := Lib.hid hZ4
      replace hM := Lib.hid hM
      clear hstore
      go_wp2
      clear hst hmk hbuild hz
      have hsz2 : ps.length * 1 = ps.length := by omega
      have hinf : (Tryz.prog.info? 9).map (fun i => (i.zero, i.size, i.bytes)) = some (some (.string ⟨#[]⟩), 1, 16) := by kernel_rfl
      obtain ⟨i0, hi0, hz0⟩ := Option.map_eq_some_iff.1 hinf
      simp only [Prod.mk.injEq] at hz0
      obtain ⟨hz0, hz1, hz2⟩ := hz0
      have hzz : (i : Int) - 2 = 2 * (ps.length : Int) - 2 := by have := hN.out; omega
      rw [hzz]
      go_loopw [12] (fun v wx => ∃ (j : Nat) (tv : Value), v = .int .i64 (2 * (j : Int) - 2) ∧ j ≤ ps.length ∧ Below w.heap.size w wx ∧ w.heap.size + 2 ≤ wx.heap.size ∧ TabB wx w.heap.size (w.heap.size + 1) tv (ps.drop j)) (fun v _ => natOf2 v)
      case atStart =>
        refine ⟨ps.length, .slice (some ⟨w.heap.size, 0, none⟩) 0 ps.length, rfl, Nat.le_refl _, ((Below.refl _ _).alloc (Nat.le_refl _) _).alloc (by simp) _, by simp, ?_⟩
        rw [List.drop_length]
        have hnew := heap_alloc_new (w.alloc (.cells M 9)) (.cells Z' 124)
        simp only [World.size_alloc] at hnew
        have hc : ∀ o, ((w.alloc (.cells M 9)).alloc (.cells Z' 124)).cell? ⟨w.heap.size + 1, o, none⟩ = Z'[o]? := fun o => by rw [cell_of_row _ _ _ _ _ _ hnew]
        refine ⟨⟨Z', hnew, hZ2.out⟩, fun b c h => by simp at h, fun b _ => ?_, (hc 256).trans hZ4.out, ?_, by simp [Value.ownBlock], by omega⟩
        · exact (hc _).trans (hZ3.out _ b.toNat_lt)
        · exact (World.ownsRow_made w M ps.length (Nat.le_refl _) (by unfold maxLen; omega) (by rw [hM.out]; omega)).alloc _
      case round =>
        obtain ⟨j, tv, rfl, hjl, hbw, hsw, htab⟩ := hrel
        cases j with
        | zero =>
          have hneg : ¬ (0 : Int) ≤ 2 * ((0 : Nat) : Int) - 2 := by omega
          replace htab := Lib.hid htab
          go_wp2
          go_ret
          exact ⟨_, rfl, hbw, _, htab.out⟩
        | succ j =>
          obtain ⟨k, hk⟩ : ∃ k : Nat, k = 2 * j := ⟨_, rfl⟩
          have hkI : 2 * (((j + 1 : Nat)) : Int) - 2 = (k : Int) := by omega
          rw [hkI]
          have hkN : k + 2 ≤ i := by have := hN.out; omega
          have hkcap : (k : Int) + 1 < (i : Int) := by omega
          have hge : (0 : Int) ≤ (k : Int) := by omega
          obtain ⟨c0, c1⟩ := hq.out j ps[j] (List.getElem?_eq_getElem (by omega))
          rw [← hk] at c0 c1
          have hlq := World.block_lt_of_cell? w _ c0
          replace c0 := (hbw.cell (p := ⟨q, k, none⟩) hlq).trans c0
          replace c1 := (hbw.cell (p := ⟨q, k + 1, none⟩) hlq).trans c1
          have hdrop : ps.drop j = ps[j] :: ps.drop (j + 1) := List.drop_eq_getElem_cons (by omega)
          have hno := ps_none hnd.out (List.getElem?_eq_getElem (show j < ps.length by omega))
          obtain ⟨b, c, hbc⟩ : ∃ b c, ps[j] = (b, c) := ⟨_, _, rfl⟩
          rw [hbc] at c0 c1 hdrop hno
          simp only [one, two] at c0 c1 hno
          have m0 := htab.miss b hno
          have m1 := htab.to
          obtain ⟨cur, hrow, hcsz⟩ := htab.row
          have own := htab.own
          have hb0 : (0 : Int) ≤ (b.toNat : Int) := by omega
          have hb1 : (b.toNat : Int) < 256 := by have := b.toNat_lt; omega
          have s1 : (⟨#[b]⟩ : ByteArray).size = 1 := rfl
          have x1 : ∀ h, (⟨#[b]⟩ : ByteArray)[0]'h = b := fun _ => rfl
          replace htab := Lib.hid htab
          replace hdrop := Lib.hid hdrop
          replace hno := Lib.hid hno
          replace hk := Lib.hid hk
          clear hq hbc hkI hZ2 hZ3 hZ4 hM hjl
          have heqn : ∀ w, (binOp .eql 62 (.slice none 0 0) (.slice none 0 0)).run Tryz.prog w = .ok (.bool true) w := fun _ => by kernel_rfl
          have hlg : w.heap.size + 1 < wr.heap.size := by omega
          have hcv1 : (convert 62 9 (.slice (some ⟨wr.heap.size, 0, none⟩) 1 1)).run Tryz.prog (wr.alloc (.cells #[.int .u8 (b.toNat : Int)] 5)) = .ok (.string ⟨#[b]⟩) (wr.alloc (.cells #[.int .u8 (b.toNat : Int)] 5)) :=
            run_convert_bytes_back (P := Tryz.prog) _ 62 9 5 ⟨wr.heap.size, 0, none⟩ 1 [b] Tryz.underlying62 Tryz.underlying5 Tryz.underlying9 (fun j hj => by
              obtain rfl : j = 0 := by simpa using hj
              simp [WideShapes.add_plain])
          have hcv2 : ∀ w : World, (convert 9 62 (.string ⟨#[92, c]⟩)).run Tryz.prog w = .ok (.slice (some ⟨w.heap.size, 0, none⟩) 2 (grownCap w 2 0 5)) (Lib.bytesWorld w 5 ⟨#[92, c]⟩) := fun w =>
            Lib.run_convert_string_bytes (P := Tryz.prog) w 9 62 5 ⟨#[92, c]⟩ Tryz.underlying9 Tryz.underlying62 Tryz.underlying5
          have hdl : (ps.drop (j + 1)).length ≤ 1000 := by simp; omega
          have hb2 : Below wr.heap.size wr ((wr.alloc (.cells #[.int .u8 (b.toNat : Int)] 5)).alloc (.cells #[.string ⟨#[b]⟩] 9)) := ((Below.refl _ _).alloc (Nat.le_refl _) _).alloc (by simp) _
          have hfx := fun w1 hg1 v' => htab.out.facts b hno.out hb2 (w1 := w1) hg1 v' ⟨#[92, c]⟩
          obtain ⟨L, hL⟩ : ∃ L, L = (ps.drop (j + 1)).length := ⟨_, rfl⟩
          rw [← hL] at own hdl
          replace hL := Lib.hid hL
          replace hfx := Lib.hid hfx
          replace hb2 := Lib.hid hb2
          go_wp2_with (at_builtin; refine wpList_append_lies _ rfl _ _ _ rfl w.heap.size 9 i0 _ 1 16 Tryz.underlying22 hi0 hz0 hz1 hz2 rfl (by decide) _ L _ (by rfl) ((own.alloc _).alloc _) ⟨wr.heap.size + 1, 0, none⟩ 1 1 [.string ⟨#[b]⟩] (by rfl) (by rfl) (World.news_of_block (cs := #[.string ⟨#[b]⟩]) (by simpa using heap_alloc_new (wr.alloc (.cells #[.int .u8 (b.toNat : Int)] 5)) (.cells #[.string ⟨#[b]⟩] 9))) (by intro u hu; simp at hu; subst hu; rfl) (by omega) (by unfold maxLen; omega) (by omega) (by simp; omega) _ rfl ?_; intro gg cap w1 hown1 hgrow hat hlt1; (obtain ⟨fx1, fx2, fx3, fx4⟩ := hfx.out w1 hgrow (.slice (some ⟨gg, 0, none⟩) (L + 1) cap)); replace hgrow := Lib.hid hgrow; replace hat := Lib.hid hat; replace hown1 := Lib.hid hown1)
          have hhat : tv.ownBlock = (Value.slice (some ⟨gg, 0, none⟩) (L + 1) cap).ownBlock ∨ ∃ q, (Value.slice (some ⟨gg, 0, none⟩) (L + 1) cap).ownBlock = some q ∧ wr.heap.size ≤ q := by
            rcases hat.out with e | e
            · exact .inl e
            · exact .inr ⟨gg, rfl, by rw [e]; simp; omega⟩
          have hadd := htab.out.add (b, c) hno.out hb2.out hgrow.out (tv' := .slice (some ⟨gg, 0, none⟩) (L + 1) cap) (by rw [← hL.out]; exact hown1.out) hhat ⟨#[92, c]⟩ rfl (grownCap (w1.setCell ⟨w.heap.size + 1, 256, none⟩ (.slice (some ⟨gg, 0, none⟩) (L + 1) cap)) 2 0 5)
          have hup : ∀ k, tv.ownBlock = some k → w.heap.size ≤ k := fun k hk => La.own_up own hk
          have hs1 := hgrow.out.size
          simp only [World.size_alloc] at hs1
          have hB1 : Below w.heap.size w w1 := (hbw.trans (hb2.out.mono (by omega))).grown hgrow.out (by simp; omega) hup
          have hB2 := hB1.setCell (p := ⟨w.heap.size + 1, 256, none⟩) (by simp) (.slice (some ⟨gg, 0, none⟩) (L + 1) cap)
          have hB3 := (hB2.trans ((bytes_below _ 5 ⟨#[92, c]⟩).mono (by simp; omega))).setCell (p := ⟨w.heap.size + 1, b.toNat, none⟩) (by simp) (.slice (some ⟨w1.heap.size, 0, none⟩) 2 (grownCap (w1.setCell ⟨w.heap.size + 1, 256, none⟩ (.slice (some ⟨gg, 0, none⟩) (L + 1) cap)) 2 0 5))
          refine ⟨⟨j, _, ?_, by have := hk.out; have := hN.out; omega, hB3, by simp [Lib.bytesWorld_size]; omega, by rw [hdrop.out]; exact hadd⟩, ?_⟩
          · have := hk.out
            congr 1
            omega
          · simp only [natOf2]; omega
end Go.Proofs.YtgjcdhcbniholaaGreat.Rp
