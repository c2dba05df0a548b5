/- Check: the walk. -/
import Derived.Test.YtgjcdhcbniholaaGreatLc4
import Derived.Test.YtgjcdhcbniholaaGreatReg
import Derived.Deep.DeepCutAuto
namespace Go.Proofs.YtgjcdhcbniholaaGreat.Ck
open Go.RowKit Go.Proofs.YtgjcdhcbniholaaGreat.La Go.Proofs.YtgjcdhcbniholaaGreat.Sl
set_option linter.unusedVariables false

/-- What is wrong first with labels that stand behind others. -/
def chkR (pre : List Lab) : List Lab → Int
  | [] => 0
  | x :: r => if lnameL x.1.data.toList = false then 9 else if valE x.2 ≠ 0 then valE x.2 else if behE pre x.1 ≠ 0 then behE pre x.1 else chkR (pre ++ [x]) r
def chkD (d : DD) : Int :=
  if d.kind ≠ 1 ∧ d.kind ≠ 2 ∧ d.kind ≠ 3 then 7 else if nameL d.name.data.toList = false then 9 else if valE d.help ≠ 0 then valE d.help else if 16 < d.l.length then 3 else chkR [] d.l

theorem chkR_drop (l : List Lab) (i : Nat) (h : i < l.length) : chkR (l.take i) (l.drop i) =
    if lnameL l[i].1.data.toList = false then 9 else if valE l[i].2 ≠ 0 then valE l[i].2 else if behE (l.take i) l[i].1 ≠ 0 then behE (l.take i) l[i].1 else chkR (l.take (i + 1)) (l.drop (i + 1)) := by
  rw [List.drop_eq_getElem_cons h, chkR, List.take_add_one, List.getElem?_eq_getElem h]
  rfl

theorem labs_take (l : List Lab) (i : Nat) : (labs l).take (i * 2) = labs (l.take i) := by
  induction l generalizing i with
  | nil => simp [labs]
  | cons x l ih =>
    cases i with
    | zero => simp [labs]
    | succ i =>
      have e : (i + 1) * 2 = i * 2 + 1 + 1 := by omega
      have := ih i
      unfold labs at *
      rw [e]
      simp [labV, this]

theorem rd_head {w : World} {B n i : Nat} {A : Option Addr} {l : List Lab} (h : Rd w B 2 A (labs l) n) (hn : n = l.length) (hi : i ≤ n) : Rd w B 2 A (labs (l.take i)) (l.take i).length := by
  have := h.take hi
  rw [labs_take] at this
  rw [List.length_take, Nat.min_eq_left (by omega)]
  exact this

set_option maxRecDepth 100000 in
set_option maxHeartbeats 8000000 in
theorem check_any {w : World} (d : DD) (hin : Rd w w.heap.size 2 d.A (labs d.l) d.l.length) (hc : d.l.length ≤ d.c) (hcm : d.c ≤ 9223372036854775807)
    (hnm : d.name.size ≤ 9223372036854775807) (hhp : d.help.size ≤ 9223372036854775807) (hlx : ∀ x ∈ d.l, x.1.size ≤ 9223372036854775807 ∧ x.2.size ≤ 9223372036854775807) :
    Calls Tryz.prog 11 #[d.v] w fun e w' => e = .returned (.int .i64 (chkD d)) ∧ Below w.heap.size w w' := by
  obtain ⟨k, nm, hp, A, c, l⟩ := d
  unfold chkD DD.v
  dsimp only at *
  have c1 := name_any nm hnm
  have c2 := value_any hp hhp
  obtain ⟨n, hn⟩ : ∃ n, n = l.length := ⟨_, rfl⟩
  have hin2 : ∀ o, Rd (w.alloc o) w.heap.size 2 A (labs l) n := fun o => by rw [hn]; exact hin.below ((Below.refl _ _).alloc (Nat.le_refl _) o)
  have hcI : (n : Int) ≤ (c : Int) := by omega
  have hcmI : (c : Int) ≤ 9223372036854775807 := by omega
  rw [← hn]
  replace c1 := Lib.hid c1
  replace c2 := Lib.hid c2
  replace hlx := Lib.hid hlx
  replace hn := Lib.hid hn
  replace hin2 := Lib.hid hin2
  clear hin hc hcm hnm hhp
  by_cases hk : k ≠ 1 ∧ k ≠ 2 ∧ k ≠ 3
  · rw [if_pos hk]
    obtain ⟨k1, k2, k3⟩ := hk
    have t1 : (k != 1) = true := by simpa using k1
    have t2 : (k != 2) = true := by simpa using k2
    have t3 : (k != 3) = true := by simpa using k3
    clear k1 k2 k3
    go_enter Tryz.func11, Tryz.ntmps11
    go_wp2
    go_ret
    exact ⟨rfl, (Below.refl _ _).alloc (Nat.le_refl _) _⟩
  · rw [if_neg hk]
    obtain ⟨res, hres⟩ : ∃ res, res = (if nameL nm.data.toList = false then 9 else if valE hp ≠ 0 then valE hp else if 16 < n then 3 else chkR [] l) := ⟨_, rfl⟩
    rw [← hres]
    replace hres := Lib.hid hres
    go_enter Tryz.func11, Tryz.ntmps11
    go_upto_region 1 with fail
    go_cut [8] (fun s8 wx => s8 = .bool false ∧ wx = w.alloc (.cells #[.int .i64 k, .string nm, .string hp, .slice A n c] 35))
    case first => as_aux_lemma =>
      have hk3 : k = 1 ∨ k = 2 ∨ k = 3 := by omega
      clear hk
      rcases hk3 with rfl | rfl | rfl
      all_goals
        go_wp2
        go_meet
        case rel => exact ⟨rfl, rfl⟩
    case rest => as_aux_lemma =>
      obtain ⟨rfl, hwc⟩ := hcut
      clear hk
      have bel0 : Below w.heap.size w wc := by rw [hwc]; exact (Below.refl _ _).alloc (Nat.le_refl _) _
      have hblk : wc.heap[w.heap.size]? = some (.cells #[.int .i64 k, .string nm, .string hp, .slice A n c] 35 (0, 0)) := by rw [hwc]; exact heap_alloc_new _ _
      have hrd := hin2.out (.cells #[.int .i64 k, .string nm, .string hp, .slice A n c] 35)
      rw [← hwc] at hrd
      have hwsz : w.heap.size < wc.heap.size := by rw [hwc]; simp
      clear hwc hin2
      have z1 : wc.cell? ⟨w.heap.size, 1, none⟩ = some (.string nm) := by rw [cell_of_row _ _ _ _ _ _ hblk]; rfl
      have z2 : wc.cell? ⟨w.heap.size, 2, none⟩ = some (.string hp) := by rw [cell_of_row _ _ _ _ _ _ hblk]; rfl
      have z3 : wc.cell? ⟨w.heap.size, 3, none⟩ = some (.slice A n c) := by rw [cell_of_row _ _ _ _ _ _ hblk]; rfl
      replace hblk := Lib.hid hblk
      replace hrd := Lib.hid hrd
      cases hnl : nameL nm.data.toList with
      | false =>
        rw [hnl] at c1
        have hres := hres.out
        rw [hnl, if_pos rfl] at hres
        subst hres
        go_wp2_with fail
        refine (c1.out _).mono ?_
        rintro e w' ⟨rfl, hw⟩
        rw [hw]; clear hw w'
        go_wp2
        go_ret
        exact ⟨rfl, bel0⟩
      | true =>
        rw [hnl] at c1
        have hres := hres.out
        rw [hnl, if_neg (by decide)] at hres
        go_wp2_with fail
        refine (c1.out _).mono ?_
        rintro e w' ⟨rfl, hw⟩
        rw [hw]; clear hw w' c1
        go_wp2_with fail
        refine (c2.out _).mono ?_
        rintro e w2 ⟨rfl, hb2⟩
        have bel2 := bel0.trans (hb2.mono (Nat.le_of_lt hwsz))
        have y3 := (hb2.cell (p := ⟨w.heap.size, 3, none⟩) hwsz).trans z3
        have hblk2 := Lib.hid ((hb2.block _ hwsz).trans hblk.out)
        have hrd2 := Lib.hid (hrd.out.below (hb2.mono (Nat.le_of_lt hwsz)))
        have hws2 : w.heap.size < w2.heap.size := Nat.lt_of_lt_of_le hwsz hb2.size
        clear z1 z2 z3 c2 hb2 hblk hrd bel0 hwsz
        obtain ⟨v, hv⟩ : ∃ v, v = valE hp := ⟨_, rfl⟩
        rw [← hv] at hres ⊢
        replace hv := Lib.hid hv
        by_cases hv0 : v ≠ 0
        · rw [if_pos hv0] at hres
          subst hres
          have t1 : (res != 0) = true := by simpa using hv0
          clear hv0
          go_wp2
          go_ret
          exact ⟨rfl, bel2⟩
        · rw [if_neg hv0] at hres
          have t1 : (v != 0) = false := by simpa using hv0
          clear hv0
          by_cases h16 : 16 < n
          · rw [if_pos h16] at hres
            subst hres
            have t2 : (16 : Int) < (n : Int) := by omega
            go_wp2
            go_ret
            exact ⟨rfl, bel2⟩
          · rw [if_neg h16] at hres
            replace hres := Lib.hid hres
            have t2 : ¬ (16 : Int) < (n : Int) := by omega
            go_wp2
            clear h16 hv t1
            have hnI : (n : Int) ≤ 16 := by omega
            have hn16 : n ≤ 16 := by omega
            go_loopw [40] (fun v wr => ∃ i : Nat, v = .int .i64 (i : Int) ∧ i ≤ n ∧ Hid (chkR (l.take i) (l.drop i) = res) ∧ Below (w.heap.size + 1) w2 wr) (fun v _ => n + 1 - natOf' v)
            case atStart => exact ⟨0, rfl, Nat.zero_le _, Lib.hid (by rw [hres.out]; rfl), Below.refl _ _⟩
            case round =>
              obtain ⟨i, rfl, hi, hck, hbr⟩ := hrel
              have hsr := hbr.size
              have y3 := (hbr.cell (p := ⟨w.heap.size, 3, none⟩) (Nat.lt_succ_self _)).trans y3
              have bel3 := bel2.trans (hbr.mono (Nat.le_succ _))
              by_cases hlt : i < n
              · have hil : i < l.length := by rw [← hn.out]; exact hlt
                obtain ⟨b0, off, hA, hb, q0, q1⟩ := rd_lab hrd2.out i hil hn.out
                subst hA
                obtain ⟨x, hx⟩ : ∃ x, x = l[i] := ⟨_, rfl⟩
                rw [← hx] at q0 q1
                have z0 := (hbr.cell (p := ⟨b0, off + i * 2, none⟩) (Nat.lt_succ_of_lt hb)).trans q0
                have z1 := (hbr.cell (p := ⟨b0, off + i * 2 + 1, none⟩) (Nat.lt_succ_of_lt hb)).trans q1
                have g0 : (0 : Int) ≤ (i : Int) := by omega
                have g1 : (i : Int) < (n : Int) := by omega
                have g2 : wrap64 (i : Int) = (i : Int) := by unfold wrap64; omega
                have g3 : (i : Int) ≤ (c : Int) := by omega
                have hxs := hlx.out x (by rw [hx]; exact List.getElem_mem hil)
                have c1 := lname_any x.1 hxs.1
                have c2 := value_any x.2 hxs.2
                clear hxs
                have hrh := rd_head hrd2.out hn.out (Nat.le_of_lt hlt)
                have hli : (l.take i).length = i := by rw [List.length_take]; omega
                have cb := fun (w3 : World) (k : Below (w.heap.size + 1) w2 w3) => behind_any (c := c) x.1 (hrh.below (k.mono (Nat.le_succ _))) (by rw [hli]; omega)
                rw [hli] at cb
                have hck' := hck.out
                rw [chkR_drop l i hil, ← hx] at hck'
                obtain ⟨e1, he1⟩ : ∃ e1, e1 = behE (l.take i) x.1 := ⟨_, rfl⟩
                obtain ⟨e2, he2⟩ : ∃ e2, e2 = valE x.2 := ⟨_, rfl⟩
                rw [← he1] at cb hck'
                rw [← he2] at c2 hck'
                have hlaX : (wr.alloc (.cells #[.string x.1, .string x.2] 45)).heap[wr.heap.size]? = some (.cells #[.string x.1, .string x.2] 45 (0, 0)) := heap_alloc_new _ _
                clear q0 q1 hx hrh hli he1 he2 hck hil
                replace c1 := Lib.hid c1
                replace c2 := Lib.hid c2
                replace cb := Lib.hid cb
                replace hck' := Lib.hid hck'
                replace hlaX := Lib.hid hlaX
                cases hln : lnameL x.1.data.toList with
                | false =>
                  have hr := hck'.out
                  rw [hln, if_pos rfl] at hr
                  subst hr
                  rw [hln] at c1
                  go_wp2_with fail
                  refine (c1.out _).mono ?_
                  rintro e w' ⟨rfl, hw⟩
                  rw [hw]; clear hw w'
                  go_wp2
                  go_ret
                  exact ⟨rfl, bel3.alloc (by omega) _⟩
                | true =>
                  have hr := hck'.out
                  rw [hln, if_neg (by decide)] at hr
                  rw [hln] at c1
                  replace hr := Lib.hid hr
                  clear hck'
                  go_wp2_with fail
                  refine (c1.out _).mono ?_
                  rintro e w' ⟨rfl, hw⟩
                  rw [hw]; clear hw w' c1
                  go_wp2_with fail
                  refine (c2.out _).mono ?_
                  rintro e w4 ⟨rfl, hb4⟩
                  simp only [World.size_alloc] at hb4
                  have hb4' : Below (w.heap.size + 1) w2 w4 := (hbr.alloc (by omega) _).trans (hb4.mono (by omega))
                  have x0 : w4.cell? ⟨wr.heap.size, 0, none⟩ = some (.string x.1) := by
                    rw [cell_of_row _ _ _ _ _ _ ((hb4.block wr.heap.size (Nat.lt_succ_self _)).trans hlaX.out)]; rfl
                  have y4 := (hb4.cell (p := ⟨w.heap.size, 3, none⟩) (by simp; omega)).trans ((World.cell?_alloc_past (w := wr) (.cells #[.string x.1, .string x.2] 45) w.heap.size 3 (by omega)).trans y3)
                  have bel4 := bel2.trans (hb4'.mono (Nat.le_succ _))
                  clear c2 hb4 y3 hbr bel3 z0 z1
                  by_cases he20 : e2 ≠ 0
                  · have hr := hr.out
                    rw [if_pos he20] at hr
                    subst hr
                    have t1 : (e2 != 0) = true := by simpa using he20
                    clear he20
                    go_wp2
                    go_ret
                    exact ⟨rfl, bel4⟩
                  · have hr := hr.out
                    rw [if_neg he20] at hr
                    have t1 : (e2 != 0) = false := by simpa using he20
                    clear he20
                    replace hr := Lib.hid hr
                    go_wp2
                    have hxl : wr.heap.size < w4.heap.size := World.block_lt_of_cell? w4 _ x0
                    have hw4 : w.heap.size < w4.heap.size := by omega
                    have cq := fun (w3 : World) (k : Below w4.heap.size w4 w3) => (cb.out w3 (hb4'.trans (k.mono (by omega)))).mono (R' := fun e w' => e = .returned (.int .i64 e1) ∧ Below w3.heap.size w3 w') (fun _ _ hh => ⟨hh.1, by rw [hh.2]; exact Below.refl _ _⟩)
                    replace cq := Lib.hid cq
                    clear cb
                    refine Reg.region_below (by kernel_rfl) (by kernel_rfl) ?_
                    intro Sx _ f hf hs
                    have y0 := Reg.keepc hf hw4 y4
                    have y1 := Reg.keepc hf hxl x0
                    have q1 := fun s => cq.out (f s) (hf s)
                    clear x0 y4 cq
                    repeat (go_big_quiet_step ((go_at_call 29; with_reducible exact Reg.met hs (q1 _))))
                    refine wpQuiet_nil ?_
                    intro s
                    have hb5 := hf s
                    obtain ⟨w5, hw5⟩ : ∃ w5, w5 = f s := ⟨_, rfl⟩
                    rw [← hw5] at hb5 ⊢
                    clear hw5 hs hf q1 y0 y1
                    have bel5 := bel4.trans (hb5.mono (Nat.le_of_lt hw4))
                    have hb5' := hb4'.trans (hb5.mono hw4)
                    by_cases he10 : e1 ≠ 0
                    · have hr := hr.out
                      rw [if_pos he10] at hr
                      subst hr
                      have t3 : (e1 != 0) = true := by simpa using he10
                      clear he10
                      go_wp2
                      go_ret
                      exact ⟨rfl, bel5⟩
                    · have hr := hr.out
                      rw [if_neg he10] at hr
                      have t3 : (e1 != 0) = false := by simpa using he10
                      clear he10
                      replace hr := Lib.hid hr
                      go_wp2
                      exact ⟨⟨i + 1, by simp, hlt, hr, hb5'⟩, by simp [natOf']; omega⟩
              · obtain rfl : i = n := by omega
                have hge : ¬ (i : Int) < (i : Int) := by omega
                have hr := hck.out
                rw [List.drop_of_length_le (by rw [← hn.out]; exact Nat.le_refl _)] at hr
                have hr0 : res = 0 := by rw [← hr]; rfl
                subst hr0
                clear hr hck
                go_wp2
                go_ret
                exact ⟨rfl, bel3⟩
end Go.Proofs.YtgjcdhcbniholaaGreat.Ck
