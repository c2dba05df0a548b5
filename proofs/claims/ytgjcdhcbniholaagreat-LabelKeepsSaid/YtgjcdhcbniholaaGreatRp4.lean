/- strings.Replacer: (*byteStringReplacer).Replace. -/
import Derived.Test.YtgjcdhcbniholaaGreatRp3
import Derived.Deep.DeepCutAuto
import Derived.Deep.RegionLaw
import Derived.Laws.CopyOwn
import Derived.BigQuiet
import Derived.StillTailTactics
import Derived.Deep.RegionHeld3
namespace Go.Proofs.YtgjcdhcbniholaaGreat.Rp
open Go.RowKit
set_option linter.unusedVariables false

theorem make_bytes (n : Nat) (hn : (n : Int) ≤ 140737488355328) : ∃ M : Array Value, M = (rowAt [] n).toArray ∧
    ∀ w : World, (Instr.makeSlice 62 (.int .i64 (n : Int)) (.int .i64 (n : Int))).run Tryz.prog w = .ok (.slice (some ⟨w.heap.size, 0, none⟩) n n) (w.alloc (.cells M 5)) := by
  obtain ⟨i0, hi0, hz0⟩ := Option.map_eq_some_iff.1 La.infoU8
  simp only [Prod.mk.injEq] at hz0
  obtain ⟨hz0, hz1, hz2⟩ := hz0
  refine ⟨_, rfl, fun w => ?_⟩
  have := run_make (P := Tryz.prog) w 62 5 i0 _ Tryz.underlying62 hi0 hz0 .i64 .i64 n n (by omega) (Int.le_refl _) (by rw [hz2]; omega) (by omega)
  rw [hz1, made_one _ rfl] at this
  simpa [rowAt, La.bc] using this

set_option maxRecDepth 100000 in
set_option maxHeartbeats 4000000 in
theorem repl_any (g B : Nat) (ps : List Pr) (s : ByteArray) (w : World) (h : Tab w B g ps) (hps : ps.length ≤ 1000) (hnd : (ps.map (·.1)).Nodup) (hs : s.size + hits ps s.data.toList ≤ 140737488355328) :
    Calls Tryz.prog 129 #[.pointer (some ⟨g, 0, none⟩), .string s] w fun e w' => e = .returned (.string ⟨(escL ps s.data.toList).toArray⟩) ∧ Below w.heap.size w w' := by
  obtain ⟨k, cap, z0, z1, z2, z3, _⟩ := h.to
  have hc := Tryz.strings_Count_one s
  obtain ⟨n, hn⟩ : ∃ n, n = hits ps s.data.toList := ⟨_, rfl⟩
  have hns : n ≤ s.size := by have := hits_le ps s.data.toList; rw [La.len_data] at this; omega
  have hkI : (ps.length : Int) ≤ 1000 := by omega
  have hsI : (s.size : Int) ≤ 140737488355328 := by omega
  have hnI : (n : Int) ≤ 140737488355328 := by omega
  have hsn : (s.size : Int) + (n : Int) ≤ 140737488355328 := by rw [← hn] at hs; omega
  replace z3 := Lib.hid z3
  replace h := Lib.hid h
  replace hc := Lib.hid hc
  replace hnd := Lib.hid hnd
  replace hn := Lib.hid hn
  have hnI0 : (0 : Int) ≤ n := by omega
  clear hns hs
  go_enter Tryz.func129, Tryz.ntmps129
  go_upto_if 26 with fail
  go_cut [5, 6] (fun s5 s6 wx => s5 = .int .i64 ((s.size : Int) + n) ∧ s6 = .bool (decide (0 < n)) ∧ Below w.heap.size w wx)
  case first => as_aux_lemma =>
    by_cases hh : (ps.length : Int) * 8 ≤ (s.size : Int)
    · simp only [decide_eq_true hh]
      go_wp2
      go_loopw [32, 5, 6] (fun v a b wr => ∃ j c : Nat, v = .int .i64 (j : Int) ∧ j ≤ ps.length ∧ a = .int .i64 ((s.size : Int) + c) ∧ (∃ bb, b = .bool bb ∧ Hid (bb = decide (0 < c))) ∧ Hid (c = cntA ps s.data.toList j) ∧ Below w.heap.size w wr) (fun v _ _ _ => ps.length + 1 - natOf v)
      case atStart => exact ⟨0, 0, rfl, Nat.zero_le _, by simp, ⟨_, rfl, rfl⟩, rfl, Below.refl _ _⟩
      case round =>
        obtain ⟨j, c, rfl, hjl, rfl, ⟨bb, rfl, hbb⟩, hcc, hbw⟩ := hrel
        have z0 := (hbw.cell (p := ⟨g, 256, none⟩) h.out.lt).trans z0
        have hcn : c ≤ n := by rw [hcc.out, hn.out]; exact cntA_le ps _ hnd.out j
        have hcI : (c : Int) ≤ n := by omega
        by_cases hlt : j < ps.length
        · have hltI : (j : Int) < (ps.length : Int) := by omega
          obtain ⟨p, hp⟩ : ∃ p, ps.reverse[j]? = some p := ⟨_, List.getElem?_eq_getElem (by simpa using hlt)⟩
          have c0 := (hbw.cell (p := ⟨k, j, none⟩) z2).trans (z3.out j p hp)
          obtain ⟨c', hl⟩ := look_of_mem ps p (by have := List.mem_of_getElem? hp; simpa using this)
          obtain ⟨k', cap', c1, _⟩ := (h.out.below hbw).hit p.1 c' hl
          obtain ⟨b, hb⟩ : ∃ b, b = p.1 := ⟨_, rfl⟩
          rw [← hb] at c0 c1
          have hst := cntA_step ps s.data.toList j p hp
          have hmx := cntA_le ps s.data.toList hnd.out (j + 1)
          rw [← hcc.out, ← hb] at hst
          have cc := hc.out b
          obtain ⟨d, hd⟩ : ∃ d, d = Lib.countByte s.data.toList b := ⟨_, rfl⟩
          rw [← hd] at cc hst
          rw [← hn.out, hst] at hmx
          have hdI : (c : Int) + (d : Int) ≤ n := by omega
          have hd0 : (0 : Int) ≤ (d : Int) := by omega
          have hc0 : (0 : Int) ≤ (c : Int) := by omega
          have hb0 : (0 : Int) ≤ (b.toNat : Int) := by omega
          have hb1 : (b.toNat : Int) < 256 := by have := b.toNat_lt; omega
          have s1 : (one b).size = 1 := rfl
          have x1 : ∀ h, (one b)[0]'h = b := fun _ => rfl
          replace cc := Lib.hid cc
          replace hst := Lib.hid hst
          clear hb hd hp hl hmx hcn hh
          by_cases hd1 : d = 0
          · have t1 : ((d : Int) != 0) = false := by simpa using hd1
            go_wp2_with fail
            refine (cc.out _).mono ?_
            rintro e w' ⟨rfl, hw⟩
            rw [hw]; clear hw w'
            go_wp2
            exact ⟨⟨j + 1, c, by simp, hlt, rfl, ⟨bb, rfl, hbb⟩, Lib.hid (by rw [hst.out, hd1]; omega), hbw⟩, by simp [natOf]; omega⟩
          · have t1 : ((d : Int) != 0) = true := by simpa using hd1
            go_wp2_with fail
            refine (cc.out _).mono ?_
            rintro e w' ⟨rfl, hw⟩
            rw [hw]; clear hw w'
            go_wp2
            go_quiet (fail)
            go_wp2
            exact ⟨⟨j + 1, c + d, by simp, hlt, by simp; omega, ⟨true, rfl, Lib.hid (by simp; omega)⟩, Lib.hid hst.out.symm, below_drewN hbw _⟩, by simp [natOf]; omega⟩
        · obtain rfl : j = ps.length := by omega
          have hcn2 : c = n := by rw [hcc.out, hn.out]; exact cntA_all ps _ hnd.out
          have hbb2 : bb = decide (0 < n) := by rw [hbb.out, hcn2]
          clear hcc hbb
          subst hcn2
          go_wp2
          go_meet
          case rel => exact ⟨rfl, by rw [hbb2], hbw⟩
    · simp only [decide_eq_false hh]
      go_wp2
      go_loopw [10, 5, 6] (fun v a b wr => ∃ i c : Nat, v = .int .i64 (i : Int) ∧ i ≤ s.size ∧ a = .int .i64 ((s.size : Int) + c) ∧ (∃ bb, b = .bool bb ∧ Hid (bb = decide (0 < c))) ∧ Hid (c = hits ps (s.data.toList.take i)) ∧ w = wr) (fun v _ _ _ => s.size + 1 - natOf v)
      case atStart => exact ⟨0, 0, rfl, Nat.zero_le _, by simp, ⟨_, rfl, rfl⟩, rfl, rfl⟩
      case round =>
        obtain ⟨i, c, rfl, hil, rfl, ⟨bb, rfl, hbb⟩, hcc, hww⟩ := hrel
        subst hww
        have hcn : c ≤ n := by rw [hcc.out, hn.out]; exact hits_mono ps _ i
        have hcI : (c : Int) ≤ n := by omega
        by_cases hlt : i < s.size
        · have hltI : (i : Int) < (s.size : Int) := by omega
          have hst := hits_step ps s i hlt
          have hmx : hits ps (s.data.toList.take (i + 1)) ≤ n := by rw [hn.out]; exact hits_mono ps _ (i + 1)
          rw [← hcc.out] at hst
          have hb0 : (0 : Int) ≤ (s[i].toNat : Int) := by omega
          have hb1 : (s[i].toNat : Int) < 256 := by have := s[i].toNat_lt; omega
          have hc0 : (0 : Int) ≤ (c : Int) := by omega
          cases hl : ps.lookup s[i] with
          | none =>
            have c1 := h.out.miss _ hl
            have heqn : ∀ w, (binOp .neq 62 (.slice none 0 0) (.slice none 0 0)).run Tryz.prog w = .ok (.bool false) w := fun _ => by kernel_rfl
            rw [hl] at hst
            replace hst := Lib.hid hst
            clear hl hmx hcn hh
            go_wp2
            exact ⟨⟨i + 1, c, by simp, hlt, rfl, ⟨bb, rfl, hbb⟩, Lib.hid (by rw [hst.out]; simp), trivial⟩, by simp [natOf]; omega⟩
          | some c' =>
            obtain ⟨k', cap', c1, _⟩ := h.out.hit _ c' hl
            have heqn : ∀ w, (binOp .neq 62 (.slice (some ⟨k', 0, none⟩) 2 cap') (.slice none 0 0)).run Tryz.prog w = .ok (.bool true) w := fun _ => by kernel_rfl
            rw [hl] at hst
            have hst : hits ps (s.data.toList.take (i + 1)) = c + 1 := by simpa using hst
            have hcI2 : (c : Int) + 1 ≤ n := by omega
            replace hst := Lib.hid hst
            clear hl hmx hcn hh
            go_wp2
            exact ⟨⟨i + 1, c + 1, by simp, hlt, by simp; omega, ⟨true, rfl, Lib.hid (by simp)⟩, Lib.hid hst.out.symm, trivial⟩, by simp [natOf]; omega⟩
        · obtain rfl : i = s.size := by omega
          have hcn2 : c = n := by rw [hcc.out, hn.out, List.take_of_length_le (by rw [La.len_data]; omega)]
          have hbb2 : bb = decide (0 < n) := by rw [hbb.out, hcn2]
          clear hcc hbb
          subst hcn2
          go_wp2
          go_meet
          case rel => exact ⟨rfl, by rw [hbb2], Below.refl _ _⟩
  case rest => as_aux_lemma =>
    obtain ⟨rfl, rfl, hbw⟩ := hcut
    have hnot : ∀ (x : Bool) (w : World), (Op.unary .not (.bool x)).run Tryz.prog w = .ok (.bool (!x)) w := fun _ _ => rfl
    replace hc := ()
    by_cases h0 : n = 0
    · have d0 : decide (0 < n) = false := by simp; omega
      rw [d0]
      go_wp2
      go_ret
      have := escL_none ps s.data.toList (by rw [← hn.out]; exact h0)
      have e : (⟨s.data.toList.toArray⟩ : ByteArray) = s := by simp
      exact ⟨by rw [this, e]; rfl, hbw⟩
    · have d0 : decide (0 < n) = true := by simp; omega
      rw [d0]
      have hsz : (s.size : Int) + (n : Int) = ((s.size + n : Nat) : Int) := by omega
      rw [hsz]
      obtain ⟨T, hT⟩ : ∃ T, T = s.size + n := ⟨_, rfl⟩
      rw [← hT]
      have hTI : (T : Int) ≤ 140737488355328 := by omega
      have hTl : (escL ps s.data.toList).length = T := by rw [escL_len, hT, La.len_data, ← hn.out]
      obtain ⟨M, hM, hmk⟩ := make_bytes T hTI
      replace h := Lib.hid (h.out.below hbw)
      replace hTl := Lib.hid hTl
      replace hM := Lib.hid hM
      have hsw := hbw.size
      clear hT hsz d0 h0 z0 z1 z2 z3
      go_wp2
      clear hmk
      go_loopw [13, 14] (fun a v wr => ∃ i J : Nat, v = .int .i64 (i : Int) ∧ i ≤ s.size ∧ a = .int .i64 (J : Int) ∧ Hid (J = (escL ps (s.data.toList.take i)).length) ∧ Hid (wr.heap[wc.heap.size]? = some (.cells (rowAt (escL ps (s.data.toList.take i)) T).toArray 5 (0, 0))) ∧ Below wc.heap.size wc wr) (fun _ v _ => s.size + 1 - natOf v)
      case atStart => exact ⟨0, 0, rfl, Nat.zero_le _, rfl, rfl, Lib.hid (by rw [heap_alloc_new]; rw [hM.out]; rfl), (Below.refl _ _).alloc (Nat.le_refl _) _⟩
      case round =>
        obtain ⟨i, J, rfl, hil, rfl, hJ, hrow, hb⟩ := hrel
        have hJT : J ≤ T := by rw [hJ.out, ← hTl.out]; exact escL_take ps _ i
        by_cases hlt : i < s.size
        · have hltI : (i : Int) < (s.size : Int) := by omega
          have hst := escL_step ps s i hlt
          have hmx := escL_take ps s.data.toList (i + 1)
          rw [hTl.out, hst, List.length_append, ← hJ.out] at hmx
          have hb0 : (0 : Int) ≤ (s[i].toNat : Int) := by omega
          have hb1 : (s[i].toNat : Int) < 256 := by have := s[i].toNat_lt; omega
          have hJ0 : (0 : Int) ≤ (J : Int) := by omega
          have hT := h.out.below hb
          have hgl := h.out.lt
          cases hl : ps.lookup s[i] with
          | none =>
            have he : esc ps s[i] = [s[i]] := by simp [esc, hl]
            have c1 := hT.miss _ hl
            have heqn : ∀ w, (binOp .neq 62 (.slice none 0 0) (.slice none 0 0)).run Tryz.prog w = .ok (.bool false) w := fun _ => by kernel_rfl
            rw [he] at hst hmx
            simp only [List.length_singleton] at hmx
            have hJI : (J : Int) < (T : Int) := by omega
            have k1 : wr.cell? ⟨wc.heap.size, J, none⟩ = some (.int .u8 0) := by
              rw [cell_of_row _ _ _ _ _ _ hrow.out]
              simpa using rowAt_get _ T J (by rw [← hJ.out]; exact Nat.le_refl _) (by omega)
            have k2 : wr.frozen? ⟨wc.heap.size, J, none⟩ = false := frozen_of_block hrow.out
            have hrow2 : (wr.setCell ⟨wc.heap.size, J, none⟩ (.int .u8 (s[i].toNat : Int))).heap[wc.heap.size]? = some (.cells (rowAt (escL ps (s.data.toList.take (i + 1))) T).toArray 5 (0, 0)) := by
              rw [Lib.heap_setCell_same (i := J) hrow.out, hst, ← rowAt_set _ T s[i] (by rw [← hJ.out]; omega), ← hJ.out]
              simp
            replace hst := Lib.hid hst
            replace hT := Lib.hid hT
            replace hrow2 := Lib.hid hrow2
            clear hl hmx he
            go_wp2
            exact ⟨⟨i + 1, J + 1, by simp, hlt, by simp, Lib.hid (by rw [hst.out, List.length_append, ← hJ.out]; rfl), hrow2, hb.setCell (p := ⟨wc.heap.size, J, none⟩) (Nat.le_refl _) _⟩, by simp [natOf]; omega⟩
          | some c =>
            have he : esc ps s[i] = [92, c] := by simp [esc, hl]
            obtain ⟨k', cap', c1, q1, q2, q3, q4, _⟩ := hT.hit _ c hl
            have hkr : k' < wc.heap.size := by
              obtain ⟨k2, cap2, d1, d2, d3, _⟩ := h.out.hit _ c hl
              have := (hb.cell (p := ⟨g, s[i].toNat, none⟩) hgl).trans d1
              rw [c1] at this
              simp at this
              omega
            have c1c := (hb.cell (p := ⟨g, s[i].toNat, none⟩) hgl).symm.trans c1
            have heqn : ∀ w, (binOp .neq 62 (.slice (some ⟨k', 0, none⟩) 2 cap') (.slice none 0 0)).run Tryz.prog w = .ok (.bool true) w := fun _ => by kernel_rfl
            rw [he] at hst hmx
            have hmx : J + 2 ≤ T := hmx
            have hJI : (J : Int) + 2 ≤ (T : Int) := by omega
            replace hst := Lib.hid hst
            replace hT := Lib.hid hT
            have hlen : (rowAt (escL ps (s.data.toList.take i)) T).length = T := rowAt_len _ _ (by rw [← hJ.out]; exact hJT)
            have hrow2 : splice (rowAt (escL ps (s.data.toList.take i)) T) J [.int .u8 92, .int .u8 (c.toNat : Int)] = rowAt (escL ps (s.data.toList.take (i + 1))) T := by
              rw [hst.out, hJ.out]
              exact rowAt_splice _ T 92 c (by rw [← hJ.out]; exact hmx)
            replace hlen := Lib.hid hlen
            replace hrow2 := Lib.hid hrow2
            have hsrc : ∀ (j : Nat) v, [Value.int .u8 92, .int .u8 (c.toNat : Int)][j]? = some v → wr.cell? ((⟨k', 0, none⟩ : Addr).add j) = some v := by
              intro j v hv
              rw [WideShapes.add_plain]
              match j, hv with
              | 0, hv => obtain rfl := Option.some.inj hv; exact q3
              | 1, hv => obtain rfl := Option.some.inj hv; exact q4
            replace hsrc := Lib.hid hsrc
            clear hl he q3 q4
            go_wp2
            go_region_held3 (fun w' => w'.cell? ⟨g, s[i].toNat, none⟩ = some (.slice (some ⟨k', 0, none⟩) 2 cap')) (first | go_keep | exact (hb2.cell (p := ⟨g, s[i].toNat, none⟩) hgl).trans c1c) ((refine step_copy_splice rfl (.tmp 105) (.tmp 111) 62 62 rfl 5 Tryz.underlying62 (by kernel_rfl) _ _ _ _ _ _ (by rfl) (by rfl) wc.heap.size J (rowAt (escL ps (s.data.toList.take i)) T) 5 (by first | exact hrow.out | simpa using hrow.out) [.int .u8 92, .int .u8 (c.toNat : Int)] (by simp [Nat.min_def]; omega) (fun _ => ⟨by first | rfl | (simp; omega), _, rfl, by first | exact hsrc.out | simpa using hsrc.out⟩) (by rw [hlen.out]; exact hmx) (by intro v hv; simp at hv; rcases hv with rfl | rfl <;> rfl) wc.heap.size wc (by first | exact hb | exact below_drew hb | exact below_drewN hb _) (Nat.le_refl _) ?_; intro w2 hg2 hb2))
            have hwr : IntKind.i64.wrap ((J : Int) + 2) = (J : Int) + 2 := by rw [IntKind.wrap_i64]; omega
            rw [hwr]
            rw [hrow2.out] at hg2
            go_wp2
            exact ⟨⟨i + 1, J + 2, by simp, hlt, by simp, Lib.hid (by rw [hst.out, List.length_append, ← hJ.out]; rfl), hg2, hb2⟩, by simp [natOf]; omega⟩
        · obtain rfl : i = s.size := by omega
          have hall : s.data.toList.take s.size = s.data.toList := List.take_of_length_le (by rw [La.len_data]; omega)
          rw [hall] at hrow
          have hTl2 := hTl.out
          obtain ⟨L, hL⟩ : ∃ L, L = escL ps s.data.toList := ⟨_, rfl⟩
          rw [← hL] at hrow hTl2
          have hcv : (convert 62 9 (.slice (some ⟨wc.heap.size, 0, none⟩) T T)).run Tryz.prog wr = .ok (.string ⟨L.toArray⟩) wr := by
            rw [← hTl2]
            exact run_convert_bytes_back (P := Tryz.prog) wr 62 9 5 ⟨wc.heap.size, 0, none⟩ _ L Tryz.underlying62 Tryz.underlying5 Tryz.underlying9 (fun j hj => by
              rw [WideShapes.add_plain, Nat.zero_add, cell_of_row _ _ _ _ _ _ hrow.out]
              simp [rowAt, La.bc, hj, ← hTl2])
          replace hTl2 := Lib.hid hTl2
          replace hL := Lib.hid hL
          clear hJ hall
          go_wp2
          go_ret
          exact ⟨by rw [← hL.out]; rfl, hbw.trans (hb.mono hsw)⟩
end Go.Proofs.YtgjcdhcbniholaaGreat.Rp
