/- The document's Check: the walk. -/
import Derived.Test.YtgjcdhcbniholaaGreatCk
import Derived.Test.YtgjcdhcbniholaaGreatRc0
namespace Go.Proofs.YtgjcdhcbniholaaGreat.Rc
open Go.RowKit Go.Proofs.YtgjcdhcbniholaaGreat.La Go.Proofs.YtgjcdhcbniholaaGreat.Sl Go.Proofs.YtgjcdhcbniholaaGreat.Ck
set_option linter.unusedVariables false

theorem last_take (l : List Lab) (i : Nat) (h : i + 1 ≤ l.length) : (l.take (i + 1)).getLast? = some l[i] := by
  rw [List.getLast?_eq_getElem?, List.length_take, Nat.min_eq_left h, Nat.add_sub_cancel, List.getElem?_take, if_pos (Nat.lt_succ_self i), List.getElem?_eq_getElem (by omega)]

set_option maxRecDepth 100000 in
set_option maxHeartbeats 8000000 in
theorem rcheck_any {w : World} (d : DD) (hin : Rd w w.heap.size 2 d.A (labs d.l) d.l.length) (hlen : d.l.length ≤ 9223372036854775807)
    (hnm : d.name.size ≤ 9223372036854775807) (hhp : d.help.size ≤ 9223372036854775807) (hlx : ∀ x ∈ d.l, x.1.size ≤ 9223372036854775807 ∧ x.2.size ≤ 9223372036854775807) :
    Calls Tryz.prog 16 #[d.v] w fun e w' => e = .returned (.int .i64 (chkD d)) ∧ Below w.heap.size w w' := by
  obtain ⟨k, nm, hp, A, c, l⟩ := d
  unfold chkD DD.v
  dsimp only at *
  have c1 := rname_any nm hnm
  have c2 := rtext_any hp hhp
  obtain ⟨n, hn⟩ : ∃ n, n = l.length := ⟨_, rfl⟩
  have bel0 : Below w.heap.size w (w.alloc (.cells #[.int .i64 k, .string nm, .string hp, .slice A n c] 35)) := (Below.refl _ _).alloc (Nat.le_refl _) _
  have hrd : Rd (w.alloc (.cells #[.int .i64 k, .string nm, .string hp, .slice A n c] 35)) w.heap.size 2 A (labs l) n := by rw [hn]; exact hin.below ((Below.refl _ _).alloc (Nat.le_refl _) _)
  have hnI : (n : Int) ≤ 9223372036854775807 := by omega
  rw [← hn]
  replace c1 := Lib.hid c1
  replace c2 := Lib.hid c2
  replace hlx := Lib.hid hlx
  replace hn := Lib.hid hn
  replace hrd := Lib.hid hrd
  clear hin hlen hnm hhp
  by_cases hk : k ≠ 1 ∧ k ≠ 2 ∧ k ≠ 3
  · rw [if_pos hk]
    by_cases kk : k < 1
    · clear hk
      go_enter Tryz.func16, Tryz.ntmps16
      go_wp2
      go_ret
      exact ⟨rfl, (Below.refl _ _).alloc (Nat.le_refl _) _⟩
    · have k3 : (3 : Int) < k := by omega
      clear hk
      go_enter Tryz.func16, Tryz.ntmps16
      go_wp2
      go_ret
      exact ⟨rfl, (Below.refl _ _).alloc (Nat.le_refl _) _⟩
  · rw [if_neg hk]
    have k1 : ¬ k < 1 := by omega
    have k3 : ¬ (3 : Int) < k := by omega
    clear hk
    obtain ⟨res, hres⟩ : ∃ res, res = (if nameL nm.data.toList = false then 9 else if valE hp ≠ 0 then valE hp else if 16 < n then 3 else chkR [] l) := ⟨_, rfl⟩
    rw [← hres]
    replace hres := Lib.hid hres
    go_enter Tryz.func16, Tryz.ntmps16
    cases hnl : nameL nm.data.toList with
    | false =>
      rw [hnl] at c1
      have hres := hres.out
      rw [hnl, if_pos rfl] at hres
      subst hres
      go_wp2_with fail
      refine (c1.out _).mono ?_
      rintro e w' ⟨rfl, hw⟩
      rw [hw]; clear hw w'
      go_wp2
      go_ret
      exact ⟨rfl, bel0⟩
    | true =>
      rw [hnl] at c1
      have hres := hres.out
      rw [hnl, if_neg (by decide)] at hres
      obtain ⟨v, hv⟩ : ∃ v, v = valE hp := ⟨_, rfl⟩
      rw [← hv] at hres c2
      replace hv := Lib.hid hv
      go_wp2_with fail
      refine (c1.out _).mono ?_
      rintro e w' ⟨rfl, hw⟩
      rw [hw]; clear hw w' c1
      by_cases hv0 : v ≠ 0
      · rw [if_pos hv0] at hres
        subst hres
        have t1 : (res != 0) = true := by simpa using hv0
        clear hv0
        go_wp2_with fail
        refine (c2.out _).mono ?_
        rintro e w' ⟨rfl, hw⟩
        rw [hw]; clear hw w'
        go_wp2
        go_ret
        exact ⟨rfl, bel0⟩
      · rw [if_neg hv0] at hres
        have t1 : (v != 0) = false := by simpa using hv0
        clear hv0
        by_cases h16 : 16 < n
        · rw [if_pos h16] at hres
          subst hres
          have t2 : (16 : Int) < (n : Int) := by omega
          go_wp2_with fail
          refine (c2.out _).mono ?_
          rintro e w' ⟨rfl, hw⟩
          rw [hw]; clear hw w'
          go_wp2
          go_ret
          exact ⟨rfl, bel0⟩
        · rw [if_neg h16] at hres
          replace hres := Lib.hid hres
          have t2 : ¬ (16 : Int) < (n : Int) := by omega
          go_wp2_with fail
          refine (c2.out _).mono ?_
          rintro e w' ⟨rfl, hw⟩
          rw [hw]; clear hw w' c2
          go_wp2
          clear h16 hv t1
          have hn16I : (n : Int) ≤ 16 := by omega
          have hn16 : n ≤ 16 := by omega
          obtain ⟨w2, hw2⟩ : ∃ w2, w2 = w.alloc (.cells #[.int .i64 k, .string nm, .string hp, .slice A n c] 35) := ⟨_, rfl⟩
          have y3 : w2.cell? ⟨w.heap.size, 3, none⟩ = some (.slice A n c) := by rw [hw2, cell_of_row _ _ _ _ _ _ (heap_alloc_new _ _)]; rfl
          have hws2 : w.heap.size < w2.heap.size := by rw [hw2]; simp
          rw [← hw2] at bel0 hrd ⊢
          clear hw2
          go_loopw [4] (fun v wr => ∃ i : Nat, v = .int .i64 (i : Int) ∧ i ≤ n ∧ Hid (chkR (l.take i) (l.drop i) = res) ∧ Below (w.heap.size + 1) w2 wr) (fun v _ => n + 1 - natOf' v)
          case atStart => exact ⟨0, rfl, Nat.zero_le _, Lib.hid (by rw [hres.out]; rfl), Below.refl _ _⟩
          case round =>
            obtain ⟨i, rfl, hi, hck, hbr⟩ := hrel
            have hsr := hbr.size
            have y3 := (hbr.cell (p := ⟨w.heap.size, 3, none⟩) (Nat.lt_succ_self _)).trans y3
            have bel3 := bel0.trans (hbr.mono (Nat.le_succ _))
            by_cases hlt : i < n
            · have hil : i < l.length := by rw [← hn.out]; exact hlt
              obtain ⟨b0, off, hA, hb, q0, q1⟩ := rd_lab hrd.out i hil hn.out
              subst hA
              obtain ⟨x, hx⟩ : ∃ x, x = l[i] := ⟨_, rfl⟩
              rw [← hx] at q0 q1
              have z0 := (hbr.cell (p := ⟨b0, off + i * 2, none⟩) (Nat.lt_succ_of_lt hb)).trans q0
              have z1 := (hbr.cell (p := ⟨b0, off + i * 2 + 1, none⟩) (Nat.lt_succ_of_lt hb)).trans q1
              have g0 : (0 : Int) ≤ (i : Int) := by omega
              have g1 : (i : Int) < (n : Int) := by omega
              have g2 : wrap64 (i : Int) = (i : Int) := by unfold wrap64; omega
              have hxs := hlx.out x (by rw [hx]; exact List.getElem_mem hil)
              have c1 := rlname_any x.1 hxs.1
              have c2 := rtext_any x.2 hxs.2
              clear hxs
              have hbe : behE (l.take i) x.1 = if h : i = 0 then 0 else behB (l[i - 1]'(by omega)).1 x.1 := by
                by_cases h0 : i = 0
                · subst h0; rfl
                · rw [dif_neg h0]
                  obtain ⟨j, rfl⟩ : ∃ j, i = j + 1 := ⟨i - 1, by omega⟩
                  exact behE_last _ _ (last_take l j (by omega)) x.1
              have hprev : i ≠ 0 → ∃ (y : ByteArray) (j : Nat), i = j + 1 ∧ w2.cell? ⟨b0, off + j * 2, none⟩ = some (.string y) ∧ behE (l.take i) x.1 = behB y x.1 := fun h0 => by
                obtain ⟨j, rfl⟩ : ∃ j, i = j + 1 := ⟨i - 1, by omega⟩
                obtain ⟨b1, off1, hA1, _, p0, _⟩ := rd_lab hrd.out j (by omega) hn.out
                injection hA1 with hA1
                injection hA1 with e1 e2
                subst e1; subst e2
                exact ⟨_, j, rfl, p0, by rw [hbe, dif_neg h0]; rfl⟩
              have hzero : i = 0 → behE (l.take i) x.1 = 0 := fun h0 => by rw [hbe, dif_pos h0]
              clear hbe
              replace hprev := Lib.hid hprev
              replace hzero := Lib.hid hzero
              have hlaX : (wr.alloc (.cells #[.string x.1, .string x.2] 45)).heap[wr.heap.size]? = some (.cells #[.string x.1, .string x.2] 45 (0, 0)) := heap_alloc_new _ _
              have hck' := Lib.hid ((chkR_drop l i hil).symm.trans hck.out)
              rw [← hx] at hck'
              clear q0 q1 hx hck
              obtain ⟨e2, he2⟩ : ∃ e2, e2 = valE x.2 := ⟨_, rfl⟩
              rw [← he2] at c2 hck'
              obtain ⟨e1, he1⟩ : ∃ e1, e1 = behE (l.take i) x.1 := ⟨_, rfl⟩
              rw [← he1] at hck' hprev hzero
              clear he1 he2
              replace c1 := Lib.hid c1
              replace c2 := Lib.hid c2
              replace hlaX := Lib.hid hlaX
              cases hln : lnameL x.1.data.toList with
              | false =>
                have hr := hck'.out
                rw [hln, if_pos rfl] at hr
                subst hr
                rw [hln] at c1
                go_wp2_with fail
                refine (c1.out _).mono ?_
                rintro e w' ⟨rfl, hw⟩
                rw [hw]; clear hw w'
                go_wp2
                go_ret
                exact ⟨rfl, bel3.alloc (by omega) _⟩
              | true =>
                have hr := hck'.out
                rw [hln, if_neg (by decide)] at hr
                rw [hln] at c1
                replace hr := Lib.hid hr
                clear hck'
                go_wp2_with fail
                refine (c1.out _).mono ?_
                rintro e w' ⟨rfl, hw⟩
                rw [hw]; clear hw w' c1
                by_cases he20 : e2 ≠ 0
                · have hr := hr.out
                  rw [if_pos he20] at hr
                  subst hr
                  have t1 : (e2 != 0) = true := by simpa using he20
                  clear he20
                  go_wp2_with fail
                  refine (c2.out _).mono ?_
                  rintro e w' ⟨rfl, hw⟩
                  rw [hw]; clear hw w' c2
                  go_wp2
                  go_ret
                  exact ⟨rfl, bel3.alloc (by omega) _⟩
                · have hr := hr.out
                  rw [if_neg he20] at hr
                  have t1 : (e2 != 0) = false := by simpa using he20
                  clear he20
                  replace hr := Lib.hid hr
                  go_wp2_with fail
                  refine (c2.out _).mono ?_
                  rintro e w' ⟨rfl, hw⟩
                  rw [hw]; clear hw w' c2
                  have bel4 : Below (w.heap.size + 1) w2 (wr.alloc (.cells #[.string x.1, .string x.2] 45)) := hbr.alloc (by omega) _
                  by_cases h0 : i = 0
                  · have he1 := hzero.out h0
                    have hr := hr.out
                    rw [he1, if_neg (by decide)] at hr
                    have t3 : ((i : Int) == 0) = true := by simpa using h0
                    replace hr := Lib.hid hr
                    clear h0 he1
                    go_wp2
                    exact ⟨⟨i + 1, by simp, hlt, hr, bel4⟩, by simp [natOf']; omega⟩
                  · obtain ⟨y, j, hj, p0, hbb⟩ := hprev.out h0
                    have t3 : ((i : Int) == 0) = false := by simpa using h0
                    have p1 := (bel4.cell (p := ⟨b0, off + j * 2, none⟩) (Nat.lt_succ_of_lt hb)).trans p0
                    rw [show j = i - 1 by omega] at p1
                    have y4 := (bel4.cell (p := ⟨w.heap.size, 3, none⟩) (Nat.lt_succ_self _)).trans (show w2.cell? ⟨w.heap.size, 3, none⟩ = _ from by assumption)
                    have x0 : (wr.alloc (.cells #[.string x.1, .string x.2] 45)).cell? ⟨wr.heap.size, 0, none⟩ = some (.string x.1) := by rw [cell_of_row _ _ _ _ _ _ hlaX.out]; rfl
                    have i1 : (1 : Int) ≤ (i : Int) := by omega
                    have i2 : (i : Int) - 1 < (n : Int) := by omega
                    have cb := rbehind_any y x.1
                    rw [← hbb] at cb
                    replace cb := Lib.hid cb
                    have hj' := Lib.hid hj
                    have hws3 : w.heap.size < (wr.alloc (.cells #[.string x.1, .string x.2] 45)).heap.size := by simp; omega
                    have hxl : wr.heap.size < (wr.alloc (.cells #[.string x.1, .string x.2] 45)).heap.size := by simp
                    clear h0 p0 hbb hj
                    go_wp2
                    have hbl : b0 < (wr.alloc (.cells #[.string x.1, .string x.2] 45)).heap.size := by omega
                    obtain ⟨wX, hwX⟩ : ∃ wX, wX = wr.alloc (.cells #[.string x.1, .string x.2] 45) := ⟨_, rfl⟩
                    rw [← hwX] at bel4 p1 y4 x0 hws3 hxl hbl ⊢
                    have cq := fun (w3 : World) => ((cb.out w3)).mono (R' := fun e w' => e = .returned (.int .i64 e1) ∧ Below w3.heap.size w3 w') (fun _ _ hh => ⟨hh.1, by rw [hh.2]; exact Below.refl _ _⟩)
                    replace cq := Lib.hid cq
                    clear cb hwX hlaX
                    refine Reg.region_below (by kernel_rfl) (by kernel_rfl) ?_
                    intro Sx _ f hf hs
                    have m0 := Reg.keepc hf hws3 y4
                    have m1 := Reg.keepc hf hbl p1
                    have m2 := Reg.keepc hf hxl x0
                    have q1 := fun s => cq.out (f s)
                    clear x0 y4 p1 cq
                    repeat (go_big_quiet_step ((go_at_call 40; with_reducible exact Reg.met hs (q1 _))))
                    refine wpQuiet_nil ?_
                    intro s
                    have hb5 := hf s
                    obtain ⟨w5, hw5⟩ : ∃ w5, w5 = f s := ⟨_, rfl⟩
                    rw [← hw5] at hb5 ⊢
                    clear hw5 hs hf q1 m0 m1 m2
                    have hb5' := bel4.trans (hb5.mono hws3)
                    have bel5 := bel0.trans (hb5'.mono (Nat.le_succ _))
                    by_cases he10 : e1 ≠ 0
                    · have hr := hr.out
                      rw [if_pos he10] at hr
                      subst hr
                      have t4 : (e1 != 0) = true := by simpa using he10
                      clear he10
                      go_wp2
                      go_ret
                      exact ⟨rfl, bel5⟩
                    · have hr := hr.out
                      rw [if_neg he10] at hr
                      have t4 : (e1 != 0) = false := by simpa using he10
                      clear he10
                      replace hr := Lib.hid hr
                      go_wp2
                      exact ⟨⟨i + 1, by simp, hlt, hr, hb5'⟩, by simp [natOf']; omega⟩
            · obtain rfl : i = n := by omega
              have hge : ¬ (i : Int) < (i : Int) := by omega
              have hr := hck.out
              rw [List.drop_of_length_le (by rw [← hn.out]; exact Nat.le_refl _)] at hr
              have hr0 : res = 0 := by rw [← hr]; rfl
              subst hr0
              clear hr hck
              go_wp2
              go_ret
              exact ⟨rfl, bel3⟩
end Go.Proofs.YtgjcdhcbniholaaGreat.Rc
