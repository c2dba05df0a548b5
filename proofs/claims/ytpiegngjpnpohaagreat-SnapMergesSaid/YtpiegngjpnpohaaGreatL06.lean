/- Lemmas for the laws of this seat, laid together of Rc1, Sm, Sq, Rc2, Rk0. -/
import Derived.Test.YtpiegngjpnpohaaGreatL00
import Derived.Test.YtpiegngjpnpohaaGreatL04
import Derived.Test.YtpiegngjpnpohaaGreatL05
import Derived.BigQuiet
import Derived.Laws.StructEq
import Derived.Shelf.Strings.BuilderX
import Derived.Lib.AppendStr
import Derived.Lib.Builder
import Derived.WalkKit
import Derived.Laws.Externs
import Derived.Test.YtpiegngjpnpohaaGreatChecked
import Derived.Deep.QuietTactic
import Derived.RegionTactic
import Derived.ChangeAlike
import Derived.Outline
import Derived.Lib.Hide
import Derived.LoopTactic
import Derived.IntWalk

namespace Go.Proofs.YtpiegngjpnpohaaGreat.Rc
open Go.RowKit Go.Proofs.YtpiegngjpnpohaaGreat.La Go.Proofs.YtpiegngjpnpohaaGreat.Sl Go.Proofs.YtpiegngjpnpohaaGreat.Ck
set_option linter.unusedVariables false
theorem last_take (l : List Lab) (i : Nat) (h : i + 1 ≤ l.length) : (l.take (i + 1)).getLast? = some l[i] := by
  rw [List.getLast?_eq_getElem?, List.length_take, Nat.min_eq_left h, Nat.add_sub_cancel, List.getElem?_take, if_pos (Nat.lt_succ_self i), List.getElem?_eq_getElem (by omega)]
set_option maxRecDepth 100000 in
set_option maxHeartbeats 8000000 in
theorem rcheck_any {w : World} (d : DD) (hin : Rd w w.heap.size 2 d.A (labs d.l) d.l.length) (hlen : d.l.length ≤ 9223372036854775807)
    (hnm : d.name.size ≤ 9223372036854775807) (hhp : d.help.size ≤ 9223372036854775807) (hlx : ∀ x ∈ d.l, x.1.size ≤ 9223372036854775807 ∧ x.2.size ≤ 9223372036854775807) :
    Calls Tryz.prog 49 #[d.v] w fun e w' => e = .returned (.int .i64 (chkD d)) ∧ Below w.heap.size w w' := by
  obtain ⟨k, nm, hp, A, c, l⟩ := d
  unfold chkD DD.v
  dsimp only at *
  have c1 := rname_any nm hnm
  have c2 := rtext_any hp hhp
  obtain ⟨n, hn⟩ : ∃ n, n = l.length := ⟨_, rfl⟩
  have bel0 : Below w.heap.size w (w.alloc (.cells #[.int .i64 k, .string nm, .string hp, .slice A n c] 43)) := (Below.refl _ _).alloc (Nat.le_refl _) _
  have hrd : Rd (w.alloc (.cells #[.int .i64 k, .string nm, .string hp, .slice A n c] 43)) w.heap.size 2 A (labs l) n := by rw [hn]; exact hin.below ((Below.refl _ _).alloc (Nat.le_refl _) _)
  have hnI : (n : Int) ≤ 9223372036854775807 := by omega
  rw [← hn]
  replace c1 := Lib.hid c1
  replace c2 := Lib.hid c2
  replace hlx := Lib.hid hlx
  replace hn := Lib.hid hn
  replace hrd := Lib.hid hrd
  clear hin hlen hnm hhp
  by_cases hk : k ≠ 1 ∧ k ≠ 2 ∧ k ≠ 3
  · rw [if_pos hk]
    by_cases kk : k < 1
    · clear hk
      go_enter Tryz.func49, Tryz.ntmps49
      go_wp2
      go_ret
      exact ⟨rfl, (Below.refl _ _).alloc (Nat.le_refl _) _⟩
    · have k3 : (3 : Int) < k := by omega
      clear hk
      go_enter Tryz.func49, Tryz.ntmps49
      go_wp2
      go_ret
      exact ⟨rfl, (Below.refl _ _).alloc (Nat.le_refl _) _⟩
  · rw [if_neg hk]
    have k1 : ¬ k < 1 := by omega
    have k3 : ¬ (3 : Int) < k := by omega
    clear hk
    obtain ⟨res, hres⟩ : ∃ res, res = (if nameL nm.data.toList = false then 9 else if valE hp ≠ 0 then valE hp else if 16 < n then 3 else chkR [] l) := ⟨_, rfl⟩
    rw [← hres]
    replace hres := Lib.hid hres
    go_enter Tryz.func49, Tryz.ntmps49
    cases hnl : nameL nm.data.toList with
    | false =>
      rw [hnl] at c1
      have hres := hres.out
      rw [hnl, if_pos rfl] at hres
      subst hres
      go_wp2_with fail
      refine (c1.out _).mono ?_
      rintro e w' ⟨rfl, hw⟩
      rw [hw]; clear hw w'
      go_wp2
      go_ret
      exact ⟨rfl, bel0⟩
    | true =>
      rw [hnl] at c1
      have hres := hres.out
      rw [hnl, if_neg (by decide)] at hres
      obtain ⟨v, hv⟩ : ∃ v, v = valE hp := ⟨_, rfl⟩
      rw [← hv] at hres c2
      replace hv := Lib.hid hv
      go_wp2_with fail
      refine (c1.out _).mono ?_
      rintro e w' ⟨rfl, hw⟩
      rw [hw]; clear hw w' c1
      by_cases hv0 : v ≠ 0
      · rw [if_pos hv0] at hres
        subst hres
        have t1 : (res != 0) = true := by simpa using hv0
        clear hv0
        go_wp2_with fail
        refine (c2.out _).mono ?_
        rintro e w' ⟨rfl, hw⟩
        rw [hw]; clear hw w'
        go_wp2
        go_ret
        exact ⟨rfl, bel0⟩
      · rw [if_neg hv0] at hres
        have t1 : (v != 0) = false := by simpa using hv0
        clear hv0
        by_cases h16 : 16 < n
        · rw [if_pos h16] at hres
          subst hres
          have t2 : (16 : Int) < (n : Int) := by omega
          go_wp2_with fail
          refine (c2.out _).mono ?_
          rintro e w' ⟨rfl, hw⟩
          rw [hw]; clear hw w'
          go_wp2
          go_ret
          exact ⟨rfl, bel0⟩
        · rw [if_neg h16] at hres
          replace hres := Lib.hid hres
          have t2 : ¬ (16 : Int) < (n : Int) := by omega
          go_wp2_with fail
          refine (c2.out _).mono ?_
          rintro e w' ⟨rfl, hw⟩
          rw [hw]; clear hw w' c2
          go_wp2
          clear h16 hv t1
          have hn16I : (n : Int) ≤ 16 := by omega
          have hn16 : n ≤ 16 := by omega
          obtain ⟨w2, hw2⟩ : ∃ w2, w2 = w.alloc (.cells #[.int .i64 k, .string nm, .string hp, .slice A n c] 43) := ⟨_, rfl⟩
          have y3 : w2.cell? ⟨w.heap.size, 3, none⟩ = some (.slice A n c) := by rw [hw2, cell_of_row _ _ _ _ _ _ (heap_alloc_new _ _)]; rfl
          have hws2 : w.heap.size < w2.heap.size := by rw [hw2]; simp
          rw [← hw2] at bel0 hrd ⊢
          clear hw2
          go_loopw [4] (fun v wr => ∃ i : Nat, v = .int .i64 (i : Int) ∧ i ≤ n ∧ Hid (chkR (l.take i) (l.drop i) = res) ∧ Below (w.heap.size + 1) w2 wr) (fun v _ => n + 1 - natOf' v)
          case atStart => exact ⟨0, rfl, Nat.zero_le _, Lib.hid (by rw [hres.out]; rfl), Below.refl _ _⟩
          case round =>
            obtain ⟨i, rfl, hi, hck, hbr⟩ := hrel
            have hsr := hbr.size
            have y3 := (hbr.cell (p := ⟨w.heap.size, 3, none⟩) (Nat.lt_succ_self _)).trans y3
            have bel3 := bel0.trans (hbr.mono (Nat.le_succ _))
            by_cases hlt : i < n
            · have hil : i < l.length := by rw [← hn.out]; exact hlt
              obtain ⟨b0, off, hA, hb, q0, q1⟩ := rd_lab hrd.out i hil hn.out
              subst hA
              obtain ⟨x, hx⟩ : ∃ x, x = l[i] := ⟨_, rfl⟩
              rw [← hx] at q0 q1
              have z0 := (hbr.cell (p := ⟨b0, off + i * 2, none⟩) (Nat.lt_succ_of_lt hb)).trans q0
              have z1 := (hbr.cell (p := ⟨b0, off + i * 2 + 1, none⟩) (Nat.lt_succ_of_lt hb)).trans q1
              have g0 : (0 : Int) ≤ (i : Int) := by omega
              have g1 : (i : Int) < (n : Int) := by omega
              have g2 : wrap64 (i : Int) = (i : Int) := by unfold wrap64; omega
              have hxs := hlx.out x (by rw [hx]; exact List.getElem_mem hil)
              have c1 := rlname_any x.1 hxs.1
              have c2 := rtext_any x.2 hxs.2
              clear hxs
              have hbe : behE (l.take i) x.1 = if h : i = 0 then 0 else behB (l[i - 1]'(by omega)).1 x.1 := by
                by_cases h0 : i = 0
                · subst h0; rfl
                · rw [dif_neg h0]
                  obtain ⟨j, rfl⟩ : ∃ j, i = j + 1 := ⟨i - 1, by omega⟩
                  exact behE_last _ _ (last_take l j (by omega)) x.1
              have hprev : i ≠ 0 → ∃ (y : ByteArray) (j : Nat), i = j + 1 ∧ w2.cell? ⟨b0, off + j * 2, none⟩ = some (.string y) ∧ behE (l.take i) x.1 = behB y x.1 := fun h0 => by
                obtain ⟨j, rfl⟩ : ∃ j, i = j + 1 := ⟨i - 1, by omega⟩
                obtain ⟨b1, off1, hA1, _, p0, _⟩ := rd_lab hrd.out j (by omega) hn.out
                injection hA1 with hA1
                injection hA1 with e1 e2
                subst e1; subst e2
                exact ⟨_, j, rfl, p0, by rw [hbe, dif_neg h0]; rfl⟩
              have hzero : i = 0 → behE (l.take i) x.1 = 0 := fun h0 => by rw [hbe, dif_pos h0]
              clear hbe
              replace hprev := Lib.hid hprev
              replace hzero := Lib.hid hzero
              have hlaX : (wr.alloc (.cells #[.string x.1, .string x.2] 103)).heap[wr.heap.size]? = some (.cells #[.string x.1, .string x.2] 103 (0, 0)) := heap_alloc_new _ _
              have hck' := Lib.hid ((chkR_drop l i hil).symm.trans hck.out)
              rw [← hx] at hck'
              clear q0 q1 hx hck
              obtain ⟨e2, he2⟩ : ∃ e2, e2 = valE x.2 := ⟨_, rfl⟩
              rw [← he2] at c2 hck'
              obtain ⟨e1, he1⟩ : ∃ e1, e1 = behE (l.take i) x.1 := ⟨_, rfl⟩
              rw [← he1] at hck' hprev hzero
              clear he1 he2
              replace c1 := Lib.hid c1
              replace c2 := Lib.hid c2
              replace hlaX := Lib.hid hlaX
              cases hln : lnameL x.1.data.toList with
              | false =>
                have hr := hck'.out
                rw [hln, if_pos rfl] at hr
                subst hr
                rw [hln] at c1
                go_wp2_with fail
                refine (c1.out _).mono ?_
                rintro e w' ⟨rfl, hw⟩
                rw [hw]; clear hw w'
                go_wp2
                go_ret
                exact ⟨rfl, bel3.alloc (by omega) _⟩
              | true =>
                have hr := hck'.out
                rw [hln, if_neg (by decide)] at hr
                rw [hln] at c1
                replace hr := Lib.hid hr
                clear hck'
                go_wp2_with fail
                refine (c1.out _).mono ?_
                rintro e w' ⟨rfl, hw⟩
                rw [hw]; clear hw w' c1
                by_cases he20 : e2 ≠ 0
                · have hr := hr.out
                  rw [if_pos he20] at hr
                  subst hr
                  have t1 : (e2 != 0) = true := by simpa using he20
                  clear he20
                  go_wp2_with fail
                  refine (c2.out _).mono ?_
                  rintro e w' ⟨rfl, hw⟩
                  rw [hw]; clear hw w' c2
                  go_wp2
                  go_ret
                  exact ⟨rfl, bel3.alloc (by omega) _⟩
                · have hr := hr.out
                  rw [if_neg he20] at hr
                  have t1 : (e2 != 0) = false := by simpa using he20
                  clear he20
                  replace hr := Lib.hid hr
                  go_wp2_with fail
                  refine (c2.out _).mono ?_
                  rintro e w' ⟨rfl, hw⟩
                  rw [hw]; clear hw w' c2
                  have bel4 : Below (w.heap.size + 1) w2 (wr.alloc (.cells #[.string x.1, .string x.2] 103)) := hbr.alloc (by omega) _
                  by_cases h0 : i = 0
                  · have he1 := hzero.out h0
                    have hr := hr.out
                    rw [he1, if_neg (by decide)] at hr
                    have t3 : ((i : Int) == 0) = true := by simpa using h0
                    replace hr := Lib.hid hr
                    clear h0 he1
                    go_wp2
                    exact ⟨⟨i + 1, by simp, hlt, hr, bel4⟩, by simp [natOf']; omega⟩
                  · obtain ⟨y, j, hj, p0, hbb⟩ := hprev.out h0
                    have t3 : ((i : Int) == 0) = false := by simpa using h0
                    have p1 := (bel4.cell (p := ⟨b0, off + j * 2, none⟩) (Nat.lt_succ_of_lt hb)).trans p0
                    rw [show j = i - 1 by omega] at p1
                    have y4 := (bel4.cell (p := ⟨w.heap.size, 3, none⟩) (Nat.lt_succ_self _)).trans (show w2.cell? ⟨w.heap.size, 3, none⟩ = _ from by assumption)
                    have x0 : (wr.alloc (.cells #[.string x.1, .string x.2] 103)).cell? ⟨wr.heap.size, 0, none⟩ = some (.string x.1) := by rw [cell_of_row _ _ _ _ _ _ hlaX.out]; rfl
                    have i1 : (1 : Int) ≤ (i : Int) := by omega
                    have i2 : (i : Int) - 1 < (n : Int) := by omega
                    have cb := rbehind_any y x.1
                    rw [← hbb] at cb
                    replace cb := Lib.hid cb
                    have hj' := Lib.hid hj
                    have hws3 : w.heap.size < (wr.alloc (.cells #[.string x.1, .string x.2] 103)).heap.size := by simp; omega
                    have hxl : wr.heap.size < (wr.alloc (.cells #[.string x.1, .string x.2] 103)).heap.size := by simp
                    clear h0 p0 hbb hj
                    go_wp2
                    have hbl : b0 < (wr.alloc (.cells #[.string x.1, .string x.2] 103)).heap.size := by omega
                    obtain ⟨wX, hwX⟩ : ∃ wX, wX = wr.alloc (.cells #[.string x.1, .string x.2] 103) := ⟨_, rfl⟩
                    rw [← hwX] at bel4 p1 y4 x0 hws3 hxl hbl ⊢
                    have cq := fun (w3 : World) => ((cb.out w3)).mono (R' := fun e w' => e = .returned (.int .i64 e1) ∧ Below w3.heap.size w3 w') (fun _ _ hh => ⟨hh.1, by rw [hh.2]; exact Below.refl _ _⟩)
                    replace cq := Lib.hid cq
                    clear cb hwX hlaX
                    refine Reg.region_below (by kernel_rfl) (by kernel_rfl) ?_
                    intro Sx _ f hf hs
                    have m0 := Reg.keepc hf hws3 y4
                    have m1 := Reg.keepc hf hbl p1
                    have m2 := Reg.keepc hf hxl x0
                    have q1 := fun s => cq.out (f s)
                    clear x0 y4 p1 cq
                    repeat (go_big_quiet_step ((go_at_call 99; with_reducible exact Reg.met hs (q1 _))))
                    refine wpQuiet_nil ?_
                    intro s
                    have hb5 := hf s
                    obtain ⟨w5, hw5⟩ : ∃ w5, w5 = f s := ⟨_, rfl⟩
                    rw [← hw5] at hb5 ⊢
                    clear hw5 hs hf q1 m0 m1 m2
                    have hb5' := bel4.trans (hb5.mono hws3)
                    have bel5 := bel0.trans (hb5'.mono (Nat.le_succ _))
                    by_cases he10 : e1 ≠ 0
                    · have hr := hr.out
                      rw [if_pos he10] at hr
                      subst hr
                      have t4 : (e1 != 0) = true := by simpa using he10
                      clear he10
                      go_wp2
                      go_ret
                      exact ⟨rfl, bel5⟩
                    · have hr := hr.out
                      rw [if_neg he10] at hr
                      have t4 : (e1 != 0) = false := by simpa using he10
                      clear he10
                      replace hr := Lib.hid hr
                      go_wp2
                      exact ⟨⟨i + 1, by simp, hlt, hr, hb5'⟩, by simp [natOf']; omega⟩
            · obtain rfl : i = n := by omega
              have hge : ¬ (i : Int) < (i : Int) := by omega
              have hr := hck.out
              rw [List.drop_of_length_le (by rw [← hn.out]; exact Nat.le_refl _)] at hr
              have hr0 : res = 0 := by rw [← hr]; rfl
              subst hr0
              clear hr hck
              go_wp2
              go_ret
              exact ⟨rfl, bel3⟩
end Go.Proofs.YtpiegngjpnpohaaGreat.Rc

namespace Go.Proofs.YtpiegngjpnpohaaGreat.Sm
open Go.RowKit Go.Proofs.YtpiegngjpnpohaaGreat.La Go.Proofs.YtpiegngjpnpohaaGreat.Sl
set_option linter.unusedVariables false
set_option maxRecDepth 100000 in
theorem ne_fact (a b c d : ByteArray) (w : World) : (binOp .neq 103 (.agg #[.string a, .string b]) (.agg #[.string c, .string d])).run Tryz.prog w = .ok (.bool (!decide ((a, b) = (c, d)))) w := by
  have hf : Tryz.prog.fieldsOf 103 = #[⟨"Name", 9, 0, false, "", "", 0⟩, ⟨"Value", 9, 1, false, "", "", 16⟩] := by kernel_rfl
  have hu : Tryz.prog.underlying 103 = some (.struct (Tryz.prog.fieldsOf 103)) := by rw [hf]; exact Tryz.underlying103
  have hp : Tryz.prog.stoodInHeld 103 = false := by kernel_rfl
  have h9 : Tryz.prog.underlying 9 = some .string := Tryz.underlying9
  have ee : ∀ (d : Nat) (x y : ByteArray) (w : World), (Op.equalIn (d + 1) 9 (.string x) (.string y)).run Tryz.prog w = .ok (decide (x = y)) w := by
    intro d x y w
    rw [run_equalIn_string w d 9 x y h9]
    congr 1
    by_cases e : x = y
    · subst e; simp
    · have hne : x.toList ≠ y.toList := fun h => e (by
        rw [ByteArray.toList_eq, ByteArray.toList_eq] at h
        exact ByteArray.ext (Array.toList_inj.1 h))
      simp [e, hne]
  have pp : ∀ (k : Nat) (xs : Array Value) (s : ByteArray) (w : World), xs[k]? = some (.string s) → (part 9 xs k).run Tryz.prog w = .ok (.string s) w := by
    intro k xs s w hk
    simp [part, Tryz.isAgg9, hk]
  have e9 : ∀ (x y : ByteArray) (w : World), (Op.equalIn 9999 9 (.string x) (.string y)).run Tryz.prog w = .ok (decide (x = y)) w := ee 9998
  rw [run_neq_struct, run_equalIn_agg (d := 9999) (ht := hu) (hp := hp), hf]
  have p0 : ∀ w, (part 9 #[.string a, .string b] 0).run Tryz.prog w = .ok (.string a) w := fun w => pp 0 _ _ w rfl
  have p1 : ∀ w, (part 9 #[.string a, .string b] 1).run Tryz.prog w = .ok (.string b) w := fun w => pp 1 _ _ w rfl
  have p2 : ∀ w, (part 9 #[.string c, .string d] 0).run Tryz.prog w = .ok (.string c) w := fun w => pp 0 _ _ w rfl
  have p3 : ∀ w, (part 9 #[.string c, .string d] 1).run Tryz.prog w = .ok (.string d) w := fun w => pp 1 _ _ w rfl
  clear pp ee
  simp [Op.eqFields, p0, p1, p2, p3, e9]
  by_cases h1 : a = c <;> by_cases h2 : b = d <;> simp [h1, h2]
set_option maxRecDepth 100000 in
set_option maxHeartbeats 8000000 in
theorem same_any (A1 A2 : Option Addr) (c1 c2 : Nat) (l m : List Lab) (w : World) (h1 : Rd w w.heap.size 2 A1 (labs l) l.length) (h2 : Rd w w.heap.size 2 A2 (labs m) m.length) (hl : l.length ≤ 140737488355328) (hm : m.length ≤ 140737488355328) :
    Calls Tryz.prog 67 #[.slice A1 l.length c1, .slice A2 m.length c2] w fun e w' => e = .returned (.bool (decide (l = m))) ∧ Below w.heap.size w w' := by
  obtain ⟨n, hn⟩ : ∃ n, n = l.length := ⟨_, rfl⟩
  obtain ⟨k, hk⟩ : ∃ k, k = m.length := ⟨_, rfl⟩
  obtain ⟨res, hres⟩ : ∃ res, res = decide (l = m) := ⟨_, rfl⟩
  have hnI : (n : Int) ≤ 140737488355328 := by omega
  rw [← hn, ← hk, ← hres]
  rw [← hn] at h1
  rw [← hk] at h2
  replace h1 := Lib.hid h1
  replace h2 := Lib.hid h2
  clear hl hm
  by_cases hnk : n = k
  · obtain rfl := hnk
    replace hn := Lib.hid hn
    replace hk := Lib.hid hk
    replace hres := Lib.hid hres
    go_enter Tryz.func67, Tryz.ntmps67
    go_wp2
    go_loopw [5] (fun v wr => ∃ i : Nat, v = .int .i64 (i : Int) ∧ i ≤ n ∧ Hid (l.take i = m.take i) ∧ Below w.heap.size w wr) (fun v _ => n + 1 - natOf' v)
    case atStart => exact ⟨0, rfl, Nat.zero_le _, Lib.hid (by simp), Below.refl _ _⟩
    case round =>
      obtain ⟨i, rfl, hi, hpre, hw⟩ := hrel
      by_cases hlt : i < n
      · have hil : i < l.length := by rw [← hn.out]; exact hlt
        have him : i < m.length := by rw [← hk.out]; exact hlt
        obtain ⟨b1, o1, hA1, hb1, p0, p1⟩ := rd_lab h1.out i hil hn.out
        obtain ⟨b2, o2, hA2, hb2, q0, q1⟩ := rd_lab h2.out i him hk.out
        subst hA1; subst hA2
        obtain ⟨x, hx⟩ : ∃ x, x = l[i] := ⟨_, rfl⟩
        obtain ⟨y, hy⟩ : ∃ y, y = m[i] := ⟨_, rfl⟩
        rw [← hx] at p0 p1
        rw [← hy] at q0 q1
        have z0 := (hw.cell (p := ⟨b1, o1 + i * 2, none⟩) hb1).trans p0
        have z1 := (hw.cell (p := ⟨b1, o1 + i * 2 + 1, none⟩) hb1).trans p1
        have z2 := (hw.cell (p := ⟨b2, o2 + i * 2, none⟩) hb2).trans q0
        have z3 := (hw.cell (p := ⟨b2, o2 + i * 2 + 1, none⟩) hb2).trans q1
        have g0 : (0 : Int) ≤ (i : Int) := by omega
        have g1 : (i : Int) < (n : Int) := by omega
        have g2 : wrap64 (i : Int) = (i : Int) := by unfold wrap64; omega
        clear p0 p1 q0 q1
        obtain ⟨xa, xb⟩ := x
        obtain ⟨ya, yb⟩ := y
        dsimp only at z0 z1 z2 z3
        have hgd : ∀ w x y, (eqGuard .neq 103 x y (.agg #[.string xa, .string xb]) (.agg #[.string ya, .string yb])).run Tryz.prog w = .ok () w := fun w x y => run_eqGuard_agg (w := w) _ _ x y _ _ (by kernel_rfl)
        have hne := ne_fact xa xb ya yb
        by_cases hxy : (xa, xb) = (ya, yb)
        · have hst : l.take (i + 1) = m.take (i + 1) := by
            rw [List.take_add_one, List.take_add_one, hpre.out, List.getElem?_eq_getElem hil, List.getElem?_eq_getElem him, ← hx, ← hy, hxy]
          rw [decide_eq_true hxy] at hne
          replace hst := Lib.hid hst
          clear hxy hx hy hil him
          go_wp2
          go_quiet (fail)
          go_wp2
          exact ⟨⟨i + 1, by simp, hlt, hst, below_drewN hw _⟩, by simp [natOf']; omega⟩
        · have hr : res = false := by
            rw [hres.out]
            simp
            intro e
            subst e
            exact hxy (hx.trans hy.symm)
          rw [decide_eq_false hxy] at hne
          subst hr
          clear hxy hx hy hil him
          go_wp2
          go_quiet (fail)
          go_wp2
          go_ret
          exact ⟨rfl, below_drewN hw _⟩
      · obtain rfl : i = n := by omega
        have hr : res = true := by
          rw [hres.out]
          have := hpre.out
          rw [List.take_of_length_le (by rw [← hn.out]; exact Nat.le_refl _), List.take_of_length_le (by rw [← hk.out]; exact Nat.le_refl _)] at this
          simpa using this
        subst hr
        go_wp2
        go_ret
        exact ⟨rfl, hw⟩
  · have hr : res = false := by
      rw [hres]
      simp
      intro e
      exact hnk (by rw [hn, hk, e])
    subst hr
    have t1 : ((n : Int) != (k : Int)) = true := by simp; omega
    go_enter Tryz.func67, Tryz.ntmps67
    go_wp2
    go_ret
    exact ⟨rfl, Below.refl _ _⟩
end Go.Proofs.YtpiegngjpnpohaaGreat.Sm

namespace Go.Proofs.YtpiegngjpnpohaaGreat.Sq
open Go.RowKit Go.Proofs.YtpiegngjpnpohaaGreat.La Go.Proofs.YtpiegngjpnpohaaGreat.Sl
set_option linter.unusedVariables false
set_option maxRecDepth 100000 in
set_option maxHeartbeats 8000000 in
theorem equal_any (A1 A2 : Option Addr) (c1 c2 : Nat) (l m : List Lab) (w : World) (h1 : Rd w w.heap.size 2 A1 (labs l) l.length) (h2 : Rd w w.heap.size 2 A2 (labs m) m.length) (hl : l.length ≤ 140737488355328) (hm : m.length ≤ 140737488355328) :
    Calls Tryz.prog 178 #[.slice A1 l.length c1, .slice A2 m.length c2] w fun e w' => e = .returned (.bool (decide (l = m))) ∧ Below w.heap.size w w' := by
  obtain ⟨n, hn⟩ : ∃ n, n = l.length := ⟨_, rfl⟩
  obtain ⟨k, hk⟩ : ∃ k, k = m.length := ⟨_, rfl⟩
  obtain ⟨res, hres⟩ : ∃ res, res = decide (l = m) := ⟨_, rfl⟩
  have hnI : (n : Int) ≤ 140737488355328 := by omega
  rw [← hn, ← hk, ← hres]
  rw [← hn] at h1
  rw [← hk] at h2
  replace h1 := Lib.hid h1
  replace h2 := Lib.hid h2
  clear hl hm
  by_cases hnk : n = k
  · obtain rfl := hnk
    replace hn := Lib.hid hn
    replace hk := Lib.hid hk
    replace hres := Lib.hid hres
    go_enter Tryz.func178, Tryz.ntmps178
    go_wp2
    go_loopw [13] (fun v wr => ∃ i : Nat, v = .int .i64 (i : Int) ∧ i ≤ n ∧ Hid (l.take i = m.take i) ∧ Below w.heap.size w wr) (fun v _ => n + 1 - natOf' v)
    case atStart => exact ⟨0, rfl, Nat.zero_le _, Lib.hid (by simp), Below.refl _ _⟩
    case round =>
      obtain ⟨i, rfl, hi, hpre, hw⟩ := hrel
      by_cases hlt : i < n
      · have hil : i < l.length := by rw [← hn.out]; exact hlt
        have him : i < m.length := by rw [← hk.out]; exact hlt
        obtain ⟨b1, o1, hA1, hb1, p0, p1⟩ := rd_lab h1.out i hil hn.out
        obtain ⟨b2, o2, hA2, hb2, q0, q1⟩ := rd_lab h2.out i him hk.out
        subst hA1; subst hA2
        obtain ⟨x, hx⟩ : ∃ x, x = l[i] := ⟨_, rfl⟩
        obtain ⟨y, hy⟩ : ∃ y, y = m[i] := ⟨_, rfl⟩
        rw [← hx] at p0 p1
        rw [← hy] at q0 q1
        have z0 := (hw.cell (p := ⟨b1, o1 + i * 2, none⟩) hb1).trans p0
        have z1 := (hw.cell (p := ⟨b1, o1 + i * 2 + 1, none⟩) hb1).trans p1
        have z2 := (hw.cell (p := ⟨b2, o2 + i * 2, none⟩) hb2).trans q0
        have z3 := (hw.cell (p := ⟨b2, o2 + i * 2 + 1, none⟩) hb2).trans q1
        have g0 : (0 : Int) ≤ (i : Int) := by omega
        have g1 : (i : Int) < (n : Int) := by omega
        have g2 : wrap64 (i : Int) = (i : Int) := by unfold wrap64; omega
        clear p0 p1 q0 q1
        obtain ⟨xa, xb⟩ := x
        obtain ⟨ya, yb⟩ := y
        dsimp only at z0 z1 z2 z3
        have hgd : ∀ w x y, (eqGuard .neq 103 x y (.agg #[.string xa, .string xb]) (.agg #[.string ya, .string yb])).run Tryz.prog w = .ok () w := fun w x y => run_eqGuard_agg (w := w) _ _ x y _ _ (by kernel_rfl)
        have hne := Sm.ne_fact xa xb ya yb
        by_cases hxy : (xa, xb) = (ya, yb)
        · have hst : l.take (i + 1) = m.take (i + 1) := by
            rw [List.take_add_one, List.take_add_one, hpre.out, List.getElem?_eq_getElem hil, List.getElem?_eq_getElem him, ← hx, ← hy, hxy]
          rw [decide_eq_true hxy] at hne
          replace hst := Lib.hid hst
          clear hxy hx hy hil him
          go_wp2
          go_quiet (fail)
          go_wp2
          exact ⟨⟨i + 1, by simp, hlt, hst, below_drewN hw _⟩, by simp [natOf']; omega⟩
        · have hr : res = false := by
            rw [hres.out]
            simp
            intro e
            subst e
            exact hxy (hx.trans hy.symm)
          rw [decide_eq_false hxy] at hne
          subst hr
          clear hxy hx hy hil him
          go_wp2
          go_quiet (fail)
          go_wp2
          go_ret
          exact ⟨rfl, below_drewN hw _⟩
      · obtain rfl : i = n := by omega
        have hr : res = true := by
          rw [hres.out]
          have := hpre.out
          rw [List.take_of_length_le (by rw [← hn.out]; exact Nat.le_refl _), List.take_of_length_le (by rw [← hk.out]; exact Nat.le_refl _)] at this
          simpa using this
        subst hr
        go_wp2
        go_ret
        exact ⟨rfl, hw⟩
  · have hr : res = false := by
      rw [hres]
      simp
      intro e
      exact hnk (by rw [hn, hk, e])
    subst hr
    have t1 : ((n : Int) != (k : Int)) = true := by simp; omega
    go_enter Tryz.func178, Tryz.ntmps178
    go_wp2
    go_ret
    exact ⟨rfl, Below.refl _ _⟩
end Go.Proofs.YtpiegngjpnpohaaGreat.Sq

namespace Go.Proofs.YtpiegngjpnpohaaGreat.Rc
open Go.RowKit Go.Proofs.YtpiegngjpnpohaaGreat.La Go.Proofs.YtpiegngjpnpohaaGreat.Sl Go.Proofs.YtpiegngjpnpohaaGreat.Ck
set_option linter.unusedVariables false
theorem order_below (a b : ByteArray) (w : World) :
    Calls Tryz.prog 106 #[.string a, .string b] w fun e w' => e = .returned (.int .i64 (cB a b)) ∧ Below w.heap.size w w' :=
  (order_any a b w).mono fun _ _ h => ⟨h.1, by rw [h.2]; exact Below.refl _ _⟩
set_option maxRecDepth 100000 in
set_option maxHeartbeats 8000000 in
theorem rcompare_any {w : World} (a b : DD) (ha : Rd w w.heap.size 2 a.A (labs a.l) a.l.length) (hb : Rd w w.heap.size 2 b.A (labs b.l) b.l.length) (hl1 : a.l.length ≤ 9223372036854775807) (hl2 : b.l.length ≤ 9223372036854775807) :
    Calls Tryz.prog 51 #[a.v, b.v] w fun e w' => e = .returned (.int .i64 (cmpD a b)) ∧ Below w.heap.size w w' := by
  obtain ⟨k1, n1, h1, A1, c1, l1⟩ := a
  obtain ⟨k2, n2, h2, A2, c2, l2⟩ := b
  unfold DD.v cmpD
  dsimp only at *
  obtain ⟨m1, hm1⟩ : ∃ m1, m1 = l1.length := ⟨_, rfl⟩
  obtain ⟨m2, hm2⟩ : ∃ m2, m2 = l2.length := ⟨_, rfl⟩
  have hm1I : (m1 : Int) ≤ 9223372036854775807 := by omega
  have hm2I : (m2 : Int) ≤ 9223372036854775807 := by omega
  rw [← hm1, ← hm2]
  rw [← hm1] at ha
  rw [← hm2] at hb
  obtain ⟨res, hres⟩ : ∃ res, res = (if cB n1 n2 ≠ 0 then cB n1 n2 else cmpLs l1 l2) := ⟨_, rfl⟩
  rw [← hres]
  obtain ⟨v, hv⟩ : ∃ v, v = cB n1 n2 := ⟨_, rfl⟩
  have co := fun w' => order_below n1 n2 w'
  rw [← hv] at hres co
  replace hres := Lib.hid hres
  replace co := Lib.hid co
  have bel0 : Below w.heap.size w ((w.alloc (.cells #[.int .i64 k1, .string n1, .string h1, .slice A1 m1 c1] 43)).alloc (.cells #[.int .i64 k2, .string n2, .string h2, .slice A2 m2 c2] 43)) := ((Below.refl _ _).alloc (Nat.le_refl _) _).alloc (by simp) _
  replace ha := Lib.hid (ha.below bel0)
  replace hb := Lib.hid (hb.below bel0)
  replace hm1 := Lib.hid hm1
  replace hm2 := Lib.hid hm2
  clear hv hl1 hl2
  go_enter Tryz.func51, Tryz.ntmps51
  go_wp2_with fail
  refine (co.out _).mono ?_
  rintro e w2 ⟨rfl, hb2⟩
  have hsz := hb2.size
  simp only [World.size_alloc] at hsz hb2
  have g1 : w2.heap[w.heap.size]? = some (.cells #[.int .i64 k1, .string n1, .string h1, .slice A1 m1 c1] 43 (0, 0)) :=
    (hb2.block _ (by omega)).trans ((heap_alloc_old _ _ (by simp)).trans (heap_alloc_new _ _))
  have g2 : w2.heap[w.heap.size + 1]? = some (.cells #[.int .i64 k2, .string n2, .string h2, .slice A2 m2 c2] 43 (0, 0)) := by
    have hn := heap_alloc_new (w.alloc (.cells #[.int .i64 k1, .string n1, .string h1, .slice A1 m1 c1] 43)) (.cells #[.int .i64 k2, .string n2, .string h2, .slice A2 m2 c2] 43)
    simp only [World.size_alloc] at hn
    exact (hb2.block _ (by omega)).trans hn
  have bel2 := bel0.trans (hb2.mono (by omega))
  have hra := Lib.hid (ha.out.below (hb2.mono (by omega)))
  have hrb := Lib.hid (hb.out.below (hb2.mono (by omega)))
  have y13 : w2.cell? ⟨w.heap.size, 3, none⟩ = some (.slice A1 m1 c1) := by rw [cell_of_row _ _ _ _ _ _ g1]; rfl
  have y23 : w2.cell? ⟨w.heap.size + 1, 3, none⟩ = some (.slice A2 m2 c2) := by rw [cell_of_row _ _ _ _ _ _ g2]; rfl
  clear bel0 ha hb hb2 g1 g2 co
  by_cases hv0 : v ≠ 0
  · have hr := hres.out
    rw [if_pos hv0] at hr
    subst hr
    have t1 : (res != 0) = true := by simpa using hv0
    clear hv0
    go_wp2
    go_ret
    exact ⟨rfl, bel2⟩
  · have hr := hres.out
    rw [if_neg hv0] at hr
    have t1 : (v != 0) = false := by simpa using hv0
    clear hv0 hres
    replace hr := Lib.hid hr
    go_wp2
    go_loopw [6] (fun u wr => ∃ i : Nat, u = .int .i64 (i : Int) ∧ i ≤ m1 ∧ i ≤ m2 ∧ Hid (cmpLs (l1.drop i) (l2.drop i) = res) ∧ Below (w.heap.size + 2) w2 wr) (fun u _ => m1 + 1 - natOf' u)
    case atStart => exact ⟨0, rfl, Nat.zero_le _, Nat.zero_le _, Lib.hid (by rw [hr.out]; rfl), Below.refl _ _⟩
    case round =>
      obtain ⟨i, rfl, hi1, hi2, hcm, hbr⟩ := hrel
      have hsr := hbr.size
      have y13 := (hbr.cell (p := ⟨w.heap.size, 3, none⟩) (by simp)).trans y13
      have y23 := (hbr.cell (p := ⟨w.heap.size + 1, 3, none⟩) (by simp)).trans y23
      have bel3 := bel2.trans (hbr.mono (by omega))
      have g0 : (0 : Int) ≤ (i : Int) := by omega
      by_cases hlt1 : i < m1
      · have j1 : (i : Int) < (m1 : Int) := by omega
        by_cases hlt2 : i < m2
        · have j2 : (i : Int) < (m2 : Int) := by omega
          have hil1 : i < l1.length := by rw [← hm1.out]; exact hlt1
          have hil2 : i < l2.length := by rw [← hm2.out]; exact hlt2
          obtain ⟨b1, o1, hA1, hb1, p0, p1⟩ := rd_lab hra.out i hil1 hm1.out
          obtain ⟨b2, o2, hA2, hb2, q0, q1⟩ := rd_lab hrb.out i hil2 hm2.out
          subst hA1; subst hA2
          have hcm' := Lib.hid ((cmpLs_drop l1 l2 i hil1 hil2).symm.trans hcm.out)
          unfold cmpLab at hcm'
          obtain ⟨x, hx⟩ : ∃ x, x = l1[i] := ⟨_, rfl⟩
          obtain ⟨y, hy⟩ : ∃ y, y = l2[i] := ⟨_, rfl⟩
          rw [← hx] at p0 p1
          rw [← hy] at q0 q1
          have hcm2 := hcm'.out
          rw [← hx, ← hy] at hcm2
          have z0 := (hbr.cell (p := ⟨b1, o1 + i * 2, none⟩) (by simp; omega)).trans p0
          have z1 := (hbr.cell (p := ⟨b1, o1 + i * 2 + 1, none⟩) (by simp; omega)).trans p1
          have z2 := (hbr.cell (p := ⟨b2, o2 + i * 2, none⟩) (by simp; omega)).trans q0
          have z3 := (hbr.cell (p := ⟨b2, o2 + i * 2 + 1, none⟩) (by simp; omega)).trans q1
          have co1 := fun w' => order_below x.1 y.1 w'
          have co2 := fun w' => order_below x.2 y.2 w'
          obtain ⟨e1, he1⟩ : ∃ e1, e1 = cB x.1 y.1 := ⟨_, rfl⟩
          obtain ⟨e2, he2⟩ : ∃ e2, e2 = cB x.2 y.2 := ⟨_, rfl⟩
          rw [← he1] at co1 hcm2
          rw [← he2] at co2 hcm2
          replace hcm2 := Lib.hid hcm2
          replace co1 := Lib.hid co1
          replace co2 := Lib.hid co2
          have g2 : wrap64 (i : Int) = (i : Int) := by unfold wrap64; omega
          have u1 : b1 < wr.heap.size := by omega
          have u2 : b2 < wr.heap.size := by omega
          have u3 : w.heap.size < wr.heap.size := by omega
          have u4 : w.heap.size + 1 < wr.heap.size := by omega
          clear p0 p1 q0 q1 hx hy hcm' hcm he1 he2 hil1 hil2
          go_wp2
          refine Reg.region_below (by kernel_rfl) (by kernel_rfl) ?_
          intro Sx _ f hf hs
          have r1 := Reg.keepc hf u1 z0
          have r2 := Reg.keepc hf u2 z2
          have r3 := Reg.keepc hf u3 y13
          have r4 := Reg.keepc hf u4 y23
          have cq := fun s => co1.out (f s)
          repeat (go_big_quiet_step ((go_at_call 106; with_reducible exact Reg.met hs (cq _))))
          refine wpQuiet_nil ?_
          intro s
          have hb5 := hf s
          have r1 := r1 s; have r2 := r2 s; have r3 := r3 s; have r4 := r4 s
          have r5 := (Reg.keepc hf u1 z1) s
          have r6 := (Reg.keepc hf u2 z3) s
          obtain ⟨w5, hw5⟩ : ∃ w5, w5 = f s := ⟨_, rfl⟩
          rw [← hw5] at hb5 r1 r2 r3 r4 r5 r6 ⊢
          clear hw5 hs hf cq z0 z1 z2 z3 y13 y23 co1
          have hb5' := hbr.trans (hb5.mono (by omega))
          have bel5 := bel3.trans (hb5.mono (by omega))
          have hs5 := hb5.size
          by_cases he10 : e1 ≠ 0
          · have hr := hcm2.out
            rw [if_pos (show (if e1 ≠ 0 then e1 else e2) ≠ 0 by rw [if_pos he10]; exact he10), if_pos he10] at hr
            subst hr
            have t4 : (e1 != 0) = true := by simpa using he10
            clear he10 hcm2
            go_wp2
            go_ret
            exact ⟨rfl, bel5⟩
          · have hr := hcm2.out
            rw [if_neg he10] at hr
            have t4 : (e1 != 0) = false := by simpa using he10
            clear he10 hcm2
            replace hr := Lib.hid hr
            go_wp2
            refine Reg.region_below (by kernel_rfl) (by kernel_rfl) ?_
            intro Sx _ f hf hs
            have r3 := Reg.keepc hf (by omega) r3
            have r4 := Reg.keepc hf (by omega) r4
            have r5 := Reg.keepc hf (by omega) r5
            have r6 := Reg.keepc hf (by omega) r6
            have cq := fun s => co2.out (f s)
            repeat (go_big_quiet_step ((go_at_call 106; with_reducible exact Reg.met hs (cq _))))
            refine wpQuiet_nil ?_
            intro s
            have hb6 := hf s
            obtain ⟨w6, hw6⟩ : ∃ w6, w6 = f s := ⟨_, rfl⟩
            rw [← hw6] at hb6 ⊢
            clear hw6 hs hf cq r3 r4 r5 r6 co2 r1 r2
            have hb6' := hb5'.trans (hb6.mono (by omega))
            have bel6 := bel5.trans (hb6.mono (by omega))
            by_cases he20 : e2 ≠ 0
            · have hr := hr.out
              rw [if_pos he20] at hr
              subst hr
              have t5 : (e2 != 0) = true := by simpa using he20
              clear he20
              go_wp2
              go_ret
              exact ⟨rfl, bel6⟩
            · have hr := hr.out
              rw [if_neg he20] at hr
              have t5 : (e2 != 0) = false := by simpa using he20
              clear he20
              replace hr := Lib.hid hr
              go_wp2
              exact ⟨⟨i + 1, by simp, hlt1, hlt2, hr, hb6'⟩, by simp [natOf']; omega⟩
        · have j2 : ¬ (i : Int) < (m2 : Int) := by omega
          have hr0 : res = 1 := by
            rw [← hcm.out]
            exact cmpLs_more l1 l2 i (by rw [← hm1.out]; exact hlt1) (by rw [← hm2.out]; omega)
          have j3 : ¬ (m1 : Int) < (m2 : Int) := by omega
          have j4 : (m2 : Int) < (m1 : Int) := by omega
          subst hr0
          clear hcm
          go_wp2
          go_ret
          exact ⟨rfl, bel3⟩
      · have j1 : ¬ (i : Int) < (m1 : Int) := by omega
        have hce := cmpLs_end l1 l2 i (by rw [← hm1.out]; omega) (by rw [← hm2.out]; exact hi2)
        rw [hcm.out, ← hm1.out, ← hm2.out] at hce
        by_cases j3 : m1 < m2
        · rw [if_pos j3] at hce
          have j4 : (m1 : Int) < (m2 : Int) := by omega
          subst hce
          clear hcm j3
          go_wp2
          go_ret
          exact ⟨rfl, bel3⟩
        · rw [if_neg j3] at hce
          have j4 : ¬ (m1 : Int) < (m2 : Int) := by omega
          have j5 : ¬ (m2 : Int) < (m1 : Int) := by omega
          subst hce
          clear hcm j3
          go_wp2
          go_ret
          exact ⟨rfl, bel3⟩
def sameD (a b : DD) : Bool := decide (a.kind = b.kind ∧ a.name = b.name ∧ a.help = b.help ∧ a.l = b.l)
set_option maxRecDepth 100000 in
set_option maxHeartbeats 8000000 in
theorem lsame_any {w : World} (a b : DD) (ha : Rd w w.heap.size 2 a.A (labs a.l) a.l.length) (hb : Rd w w.heap.size 2 b.A (labs b.l) b.l.length) (hl1 : a.l.length ≤ 140737488355328) (hl2 : b.l.length ≤ 140737488355328) :
    Calls Tryz.prog 126 #[a.v, b.v] w fun e w' => e = .returned (.bool (sameD a b)) ∧ Below w.heap.size w w' := by
  obtain ⟨k1, n1, h1, A1, c1, l1⟩ := a
  obtain ⟨k2, n2, h2, A2, c2, l2⟩ := b
  unfold DD.v sameD
  dsimp only at *
  have bel0 : Below w.heap.size w ((w.alloc (.cells #[.int .i64 k1, .string n1, .string h1, .slice A1 l1.length c1] 43)).alloc (.cells #[.int .i64 k2, .string n2, .string h2, .slice A2 l2.length c2] 43)) := ((Below.refl _ _).alloc (Nat.le_refl _) _).alloc (by simp) _
  have ce := Sq.equal_any A1 A2 c1 c2 l1 l2 _ ((ha.below bel0).mono bel0.size) ((hb.below bel0).mono bel0.size) hl1 hl2
  obtain ⟨m1, hm1⟩ : ∃ m1, m1 = l1.length := ⟨_, rfl⟩
  obtain ⟨m2, hm2⟩ : ∃ m2, m2 = l2.length := ⟨_, rfl⟩
  rw [← hm1] at ce bel0 ⊢
  rw [← hm2] at ce bel0 ⊢
  replace ce := Lib.hid ce
  clear ha hb hl1 hl2 hm1 hm2
  by_cases e1 : k1 = k2
  · by_cases e2 : n1 = n2
    · by_cases e3 : h1 = h2
      · rw [show decide (k1 = k2 ∧ n1 = n2 ∧ h1 = h2 ∧ l1 = l2) = decide (l1 = l2) by simp [e1, e2, e3]]
        subst e1; subst e2; subst e3
        go_enter Tryz.func126, Tryz.ntmps126
        go_wp2_with fail
        refine ce.out.mono ?_
        rintro e w2 ⟨rfl, hb2⟩
        go_wp2
        go_ret
        exact ⟨rfl, bel0.trans (hb2.mono bel0.size)⟩
      · rw [show decide (k1 = k2 ∧ n1 = n2 ∧ h1 = h2 ∧ l1 = l2) = false by simp [e3]]
        have t3 := tl_ne e3
        subst e1; subst e2
        clear e3
        go_enter Tryz.func126, Tryz.ntmps126
        go_wp2
        go_ret
        exact ⟨rfl, bel0⟩
    · rw [show decide (k1 = k2 ∧ n1 = n2 ∧ h1 = h2 ∧ l1 = l2) = false by simp [e2]]
      have t3 := tl_ne e2
      subst e1
      clear e2
      go_enter Tryz.func126, Tryz.ntmps126
      go_wp2
      go_ret
      exact ⟨rfl, bel0⟩
  · rw [show decide (k1 = k2 ∧ n1 = n2 ∧ h1 = h2 ∧ l1 = l2) = false by simp [e1]]
    have t3 : (k1 == k2) = false := by simpa using e1
    clear e1
    go_enter Tryz.func126, Tryz.ntmps126
    go_wp2
    go_ret
    exact ⟨rfl, bel0⟩
set_option maxRecDepth 100000 in
set_option maxHeartbeats 8000000 in
theorem rsame_any {w : World} (a b : DD) (ha : Rd w w.heap.size 2 a.A (labs a.l) a.l.length) (hb : Rd w w.heap.size 2 b.A (labs b.l) b.l.length) (hl1 : a.l.length ≤ 140737488355328) (hl2 : b.l.length ≤ 140737488355328) :
    Calls Tryz.prog 68 #[a.v, b.v] w fun e w' => e = .returned (.bool (sameD a b)) ∧ Below w.heap.size w w' := by
  obtain ⟨k1, n1, h1, A1, c1, l1⟩ := a
  obtain ⟨k2, n2, h2, A2, c2, l2⟩ := b
  unfold DD.v sameD
  dsimp only at *
  have bel0 : Below w.heap.size w ((w.alloc (.cells #[.int .i64 k1, .string n1, .string h1, .slice A1 l1.length c1] 43)).alloc (.cells #[.int .i64 k2, .string n2, .string h2, .slice A2 l2.length c2] 43)) := ((Below.refl _ _).alloc (Nat.le_refl _) _).alloc (by simp) _
  have ce := Sm.same_any A1 A2 c1 c2 l1 l2 _ ((ha.below bel0).mono bel0.size) ((hb.below bel0).mono bel0.size) hl1 hl2
  obtain ⟨m1, hm1⟩ : ∃ m1, m1 = l1.length := ⟨_, rfl⟩
  obtain ⟨m2, hm2⟩ : ∃ m2, m2 = l2.length := ⟨_, rfl⟩
  rw [← hm1] at ce bel0 ⊢
  rw [← hm2] at ce bel0 ⊢
  replace ce := Lib.hid ce
  clear ha hb hl1 hl2 hm1 hm2
  by_cases e1 : k1 = k2
  · by_cases e2 : n1 = n2
    · by_cases e3 : h1 = h2
      · rw [show decide (k1 = k2 ∧ n1 = n2 ∧ h1 = h2 ∧ l1 = l2) = decide (l1 = l2) by simp [e1, e2, e3]]
        subst e1; subst e2; subst e3
        go_enter Tryz.func68, Tryz.ntmps68
        go_wp2_with fail
        refine ce.out.mono ?_
        rintro e w2 ⟨rfl, hb2⟩
        go_wp2
        go_ret
        exact ⟨rfl, bel0.trans (hb2.mono bel0.size)⟩
      · rw [show decide (k1 = k2 ∧ n1 = n2 ∧ h1 = h2 ∧ l1 = l2) = false by simp [e3]]
        have t3 := tl_ne e3
        subst e1; subst e2
        clear e3
        go_enter Tryz.func68, Tryz.ntmps68
        go_wp2
        go_ret
        exact ⟨rfl, bel0⟩
    · rw [show decide (k1 = k2 ∧ n1 = n2 ∧ h1 = h2 ∧ l1 = l2) = false by simp [e2]]
      have t3 := tl_ne e2
      subst e1
      clear e2
      go_enter Tryz.func68, Tryz.ntmps68
      go_wp2
      go_ret
      exact ⟨rfl, bel0⟩
  · rw [show decide (k1 = k2 ∧ n1 = n2 ∧ h1 = h2 ∧ l1 = l2) = false by simp [e1]]
    have t3 : (k1 == k2) = false := by simpa using e1
    clear e1
    go_enter Tryz.func68, Tryz.ntmps68
    go_wp2
    go_ret
    exact ⟨rfl, bel0⟩
end Go.Proofs.YtpiegngjpnpohaaGreat.Rc

namespace Go.Proofs.YtpiegngjpnpohaaGreat.Rk
open Go.RowKit
set_option linter.unusedVariables false
def okC (c : Int × Int) : Prop := -9223372036854775808 ≤ c.1 ∧ c.1 ≤ 9223372036854775807 ∧ 0 ≤ c.2 ∧ c.2 ≤ 18446744073709551615
structure Cs (w : World) (B : Nat) (A : Option Addr) (l : List (Int × Int)) : Prop where
  len : l.length ≤ maxLen
  ok : ∀ c ∈ l, okC c
  cells : 0 < l.length → ∃ b off, A = some ⟨b, off, none⟩ ∧ b < B ∧ ∀ i c, l[i]? = some c → w.cell? ⟨b, off + i * 2, none⟩ = some (.int .i64 c.1) ∧ w.cell? ⟨b, off + i * 2 + 1, none⟩ = some (.int .u64 c.2)
theorem Cs.below {w w' : World} {B : Nat} {A : Option Addr} {l : List (Int × Int)} (h : Cs w B A l) (hb : Below B w w') : Cs w' B A l :=
  ⟨h.len, h.ok, fun hl => by
    obtain ⟨b, off, e, hB, hc⟩ := h.cells hl
    refine ⟨b, off, e, hB, fun i c hi => ?_⟩
    obtain ⟨h1, h2⟩ := hc i c hi
    exact ⟨(hb.cell (p := ⟨b, off + i * 2, none⟩) hB).trans h1, (hb.cell (p := ⟨b, off + i * 2 + 1, none⟩) hB).trans h2⟩⟩
def totF (n : Int) (l : List (Int × Int)) : Int := l.foldl (fun n c => IntKind.u64.wrap (n + c.2)) n
theorem take_snoc {α : Type} {l : List α} {k : Nat} (h : k < l.length) : l.take (k + 1) = l.take k ++ [l[k]] := by
  rw [List.take_succ_eq_append_getElem h]
theorem totF_snoc (n : Int) {l : List (Int × Int)} {k : Nat} (h : k < l.length) : totF n (l.take (k + 1)) = IntKind.u64.wrap (totF n (l.take k) + l[k].2) := by
  rw [take_snoc h, totF, List.foldl_append]; rfl
theorem total_any (w : World) (B : Nat) (A : Option Addr) (l : List (Int × Int)) (cap : Nat) (h : Cs w B A l) (hB : B ≤ w.heap.size) :
    Calls Tryz.prog 120 #[.slice A l.length cap] w fun e w' => e = .returned (.int .u64 (totF 0 l)) ∧ Below w.heap.size w w' := by
  have hl := h.len
  unfold maxLen at hl
  go_enter Tryz.func120, Tryz.ntmps120
  go_wp2
  go_loopw [3, 8] (fun n i wr => ∃ k : Nat, k ≤ l.length ∧ i = .int .i64 k ∧ n = .int .u64 (totF 0 (l.take k)) ∧ Below w.heap.size w wr) (fun _ i _ => l.length - (intOf i).toNat)
  case atStart => exact ⟨0, Nat.zero_le _, rfl, rfl, Below.refl _ _⟩
  case round =>
    obtain ⟨k, hk, rfl, rfl, hb⟩ := hrel
    by_cases hlt : k < l.length
    · obtain ⟨b, off, rfl, hbB, hc⟩ := (h.below (hb.mono hB)).cells (by omega)
      obtain ⟨h1, h2⟩ := hc k l[k] (List.getElem?_eq_getElem hlt)
      have hs := totF_snoc 0 hlt
      clear hc
      replace hs := Lib.hid hs
      go_wp2
      exact ⟨⟨k + 1, by omega, by go_num, by rw [hs.out], hb.alloc hb.size _⟩, by simp [intOf]; omega⟩
    · go_wp2
      go_ret
      exact ⟨by rw [List.take_of_length_le (by omega)]; rfl, hb⟩
end Go.Proofs.YtpiegngjpnpohaaGreat.Rk
