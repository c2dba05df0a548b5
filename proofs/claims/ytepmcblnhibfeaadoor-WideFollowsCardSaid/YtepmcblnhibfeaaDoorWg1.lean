/- WideFollows: the walk. -/
import Derived.Test.YtepmcblnhibfeaaDoorWg0
import Derived.Test.YtepmcblnhibfeaaDoorWiA
import Derived.Test.YtepmcblnhibfeaaDoorReg
import Derived.Test.YtepmcblnhibfeaaDoorWg2
import Derived.RegionTactic
import Derived.ChangeAlike
import Derived.Deep.DeepCutAuto
import Derived.Outline
namespace Go.Proofs.YtepmcblnhibfeaaDoor.Wi
open Go.RowKit Go.Sort Go.Lib
set_option linter.unusedVariables false

/-- What stays from the copies on. -/
structure Fl (w wr : World) (ga gb : Nat) (a b x y z : Int) : Prop where
  low : Below w.heap.size w wr
  p : w.heap.size < wr.heap.size
  la : ga < wr.heap.size
  lb : gb < wr.heap.size
  ta : Two wr ga a
  tb : Two wr gb b
  cx : wr.cell? ⟨w.heap.size, 4, none⟩ = some (.int .u64 x)
  cy : wr.cell? ⟨w.heap.size, 5, none⟩ = some (.int .u64 y)
  cz : wr.cell? ⟨w.heap.size, 6, none⟩ = some (.int .u64 z)

theorem Fl.stays {w wr w' : World} {ga gb : Nat} {a b x y z : Int} (h : Fl w wr ga gb a b x y z) (l : Below wr.heap.size wr w') : Fl w w' ga gb a b x y z :=
  ⟨joined h.low l, Nat.lt_of_lt_of_le h.p l.size, Nat.lt_of_lt_of_le h.la l.size, Nat.lt_of_lt_of_le h.lb l.size, h.ta.stays l h.la, h.tb.stays l h.lb, (l.cell h.p).trans h.cx, (l.cell h.p).trans h.cy, (l.cell h.p).trans h.cz⟩

theorem Fl.allocs {w wr : World} {ga gb : Nat} {a b x y z : Int} (h : Fl w wr ga gb a b x y z) (o : Obj) : Fl w (wr.alloc o) ga gb a b x y z := h.stays ((Below.refl _ _).alloc (Nat.le_refl _) o)
theorem Fl.drewN {w wr : World} {ga gb : Nat} {a b x y z : Int} (h : Fl w wr ga gb a b x y z) (n : Nat) : Fl w (wr.drewN n) ga gb a b x y z := h.stays (below_drewN (Below.refl _ _) n)

theorem Fl.new1 (w : World) (a b x y z : Int) : Fl w ((((w.alloc (.cells #[.int .i64 (hiI a), .int .u64 (loI a), .int .i64 (hiI b), .int .u64 (loI b), .int .u64 x, .int .u64 y, .int .u64 z] 50)).alloc (.cells #[.int .i64 (hiI a), .int .u64 (loI a)] 25)).alloc (.cells #[.int .i64 (hiI b), .int .u64 (loI b)] 25)).drew) (w.heap.size + 1) (w.heap.size + 1 + 1) a b x y z :=
  ⟨by go_grown, by simp; omega, by simp, by simp, ⟨by go_cell, by go_cell, by go_cell, by go_cell⟩, ⟨by go_cell, by go_cell, by go_cell, by go_cell⟩, by go_cell, by go_cell, by go_cell⟩
theorem Fl.new2 (w : World) (a b x y z : Int) : Fl w ((((w.alloc (.cells #[.int .i64 (hiI a), .int .u64 (loI a), .int .i64 (hiI b), .int .u64 (loI b), .int .u64 x, .int .u64 y, .int .u64 z] 50)).alloc (.cells #[.int .i64 (hiI b), .int .u64 (loI b)] 25)).alloc (.cells #[.int .i64 (hiI a), .int .u64 (loI a)] 25)).drew) (w.heap.size + 1 + 1) (w.heap.size + 1) a b x y z :=
  ⟨by go_grown, by simp; omega, by simp, by simp, ⟨by go_cell, by go_cell, by go_cell, by go_cell⟩, ⟨by go_cell, by go_cell, by go_cell, by go_cell⟩, by go_cell, by go_cell, by go_cell⟩

theorem itoa_short {a : Int} (ha : In a) : (itoa a).length ≤ 40 := by
  have h := ndig_le 39 a.natAbs (by decide) (by unfold In at ha; omega)
  rw [← decDigits_length] at h
  have e := (itoa_parts a).2
  unfold trimPrefix at e
  rw [← e] at h
  split at h
  · rw [List.length_drop] at h; simp at h; omega
  · omega

theorem least_same : I128 (-(-170141183460469231731687303715884105728)) = I128 (-170141183460469231731687303715884105728) := by
  unfold I128
  rw [show hiI (-(-170141183460469231731687303715884105728)) = hiI (-170141183460469231731687303715884105728) by decide, show loI (-(-170141183460469231731687303715884105728)) = loI (-170141183460469231731687303715884105728) by decide]

theorem cmp_neg (a b : Int) : cmpI b a = -cmpI a b := by
  unfold cmpI
  rcases Int.lt_trichotomy a b with h | h | h
  · rw [if_neg (by omega), if_neg (by omega), if_neg (by omega), if_pos h]; rfl
  · rw [if_pos h.symm, if_pos h]; rfl
  · rw [if_neg (by omega), if_pos h, if_neg (by omega), if_neg (by omega)]

set_option maxRecDepth 100000 in
set_option maxHeartbeats 4000000 in
theorem follows_any (a b : Int) (x y z : Nat) (ia : In a) (ib : In b) (hx : x ≤ 18446744073709551615) (hy : y ≤ 18446744073709551615) (hz : z ≤ 18446744073709551615) (w : World) (htab : Tab w) :
    Calls Tryd.prog 9 #[.agg #[.int .i64 (hiI a), .int .u64 (loI a), .int .i64 (hiI b), .int .u64 (loI b), .int .u64 x, .int .u64 y, .int .u64 z]] w fun e w' => e = .returned (.bool true) ∧ Below w.heap.size w w' := by
  have cpp := fun w => parts_any x y z hx hy hz w
  have cf := fun w h => fixed_any w h
  have ca := add_any a b
  have ca2 := add_any b a
  rw [show b + a = a + b by omega] at ca2
  have cs1 := sub_any (a + b) b
  rw [show a + b - b = a by omega] at cs1
  have cs2 := sub_any (a + b) a
  rw [show a + b - a = b by omega] at cs2
  have cn := neg_any a
  have ca3 := add_any a (-a)
  rw [show a + -a = 0 by omega] at ca3
  have cs3 := sub_any a b
  have cs4 := sub_any b a
  have cn2 := neg_any (b - a)
  rw [show -(b - a) = a - b by omega] at cn2
  have cc := compare_any ia ib
  have cc2 := compare_any ib ia
  rw [cmp_neg] at cc2
  have hcc := cmp_cases ia ib
  have hnn : -1 ≤ cmpI a b ∧ cmpI a b ≤ 1 := by unfold cmpI; split <;> (try split) <;> omega
  replace hcc := Lib.hid hcc
  rw [I128_zero] at ca3
  unfold I128 at ca ca2 ca3 cs1 cs2 cs3 cs4 cn cn2 cc cc2
  obtain ⟨n, hn⟩ : ∃ n, n = cmpI a b := ⟨_, rfl⟩
  rw [← hn] at cc cc2 hnn
  obtain ⟨hn0, hn1⟩ := hnn
  replace hn := Lib.hid hn
  replace ia := Lib.hid ia
  replace ib := Lib.hid ib
  clear hx hy hz
  go_enter Tryd.func9, Tryd.ntmps9
  go_upto_region 1 with fail
  go_cut [3, 4] (fun s3 s4 wx => ∃ ga gb : Nat, s3 = .pointer (some ⟨ga, 0, none⟩) ∧ s4 = .pointer (some ⟨gb, 0, none⟩) ∧ Fl w wx ga gb a b x y z)
  case first => as_aux_lemma =>
    go_region
    · go_wp2_with fail
      go_meet
      case rel => exact ⟨_, _, rfl, rfl, Fl.new1 w a b x y z⟩
    · go_wp2_with fail
      go_meet
      case rel => exact ⟨_, _, rfl, rfl, Fl.new2 w a b x y z⟩
  case rest => as_aux_lemma =>
    obtain ⟨ga, gb, rfl, rfl, hF⟩ := hcut
    obtain ⟨p1, p2, p3, p4⟩ := id hF.ta
    obtain ⟨q1, q2, q3, q4⟩ := id hF.tb
    go_wp2_with fail
    refine (ca _).mono ?_
    rintro e w1 ⟨rfl, b1⟩
    have hF1 := hF.stays b1
    have hF2 := hF1.allocs (.cells #[.int .i64 (hiI (a + b)), .int .u64 (loI (a + b))] 25)
    clear p1 p2 p3 p4 q1 q2 q3 q4 hF hF1 b1
    go_wp2_with fail
    refine Reg.region_below (by kernel_rfl) (by kernel_rfl) ?_
    intro S _ f hf hs
    have c0 := Reg.keepc hf (hF2.la) (hF2.ta.1)
    have c1 := Reg.keepc hf (hF2.la) (hF2.ta.2.1)
    have c2 := Reg.keepc hf (hF2.lb) (hF2.tb.1)
    have c3 := Reg.keepc hf (hF2.lb) (hF2.tb.2.1)
    have c4 := Reg.keepc hf (by simp : w1.heap.size < (w1.alloc (.cells #[.int .i64 (hiI (a + b)), .int .u64 (loI (a + b))] 25)).heap.size) ((Two.new w1 (a + b) 25).1)
    have c5 := Reg.keepc hf (by simp : w1.heap.size < (w1.alloc (.cells #[.int .i64 (hiI (a + b)), .int .u64 (loI (a + b))] 25)).heap.size) ((Two.new w1 (a + b) 25).2.1)
    repeat (go_big_quiet_step ((first | (go_at_call 13; with_reducible exact Reg.met hs (cs1 _)) | (go_at_call 13; with_reducible exact Reg.met hs (cs2 _)) | (go_at_call 13; with_reducible exact Reg.met hs (cs3 _)) | (go_at_call 13; with_reducible exact Reg.met hs (cs4 _)) | (go_at_call 11; with_reducible exact Reg.met hs (ca2 _)) | (go_at_call 11; with_reducible exact Reg.met hs (ca3 _)) | (go_at_call 15; with_reducible exact Reg.met hs (cn _)) | (go_at_call 15; with_reducible exact Reg.met hs (cn2 _)))))
    refine wpQuiet_nil ?_
    intro s
    have hF := hF2.stays (hf s)
    obtain ⟨w3, hw3⟩ : ∃ w3, w3 = f s := ⟨_, rfl⟩
    rw [← hw3] at hF ⊢
    clear hw3 hs hf c0 c1 c2 c3 c4 c5 hF2 ca ca2 ca3 cs1 cs2 cs4 cn cn2
    obtain ⟨p1, p2, p3, p4⟩ := id hF.ta
    obtain ⟨q1, q2, q3, q4⟩ := id hF.tb
    go_wp2_with fail
    refine (cc _).mono ?_
    rintro e w5 ⟨rfl, b5⟩
    replace hF := hF.stays b5
    clear p1 p2 p3 p4 q1 q2 q3 q4 b5
    go_upto_region 6 with fail
    go_cut [72] (fun s72 wx => s72 = .bool false ∧ Fl w wx ga gb a b x y z)
    case first => as_aux_lemma =>
      have hv := hn.out
      rcases hcc.out with ⟨h1, h2⟩ | ⟨h1, h2⟩ | ⟨h0, h1, h2⟩ | ⟨h0, h1, h2⟩ | ⟨h0, h1, h2⟩
      · as_aux_lemma =>
        rw [h2] at hv
        subst hv
        have d1 : (hiI a == hiI b) = false := beq_eq_false_iff_ne.2 (by omega)
        clear h1 h2 cc
        obtain ⟨p1, p2, p3, p4⟩ := id hF.ta
        obtain ⟨q1, q2, q3, q4⟩ := id hF.tb
        go_wp2_with fail
        refine (cc2 _).mono ?_
        rintro e w6 ⟨rfl, b6⟩
        replace hF := hF.stays b6
        clear p1 p2 p3 p4 q1 q2 q3 q4
        obtain ⟨p1, p2, p3, p4⟩ := id hF.ta
        obtain ⟨q1, q2, q3, q4⟩ := id hF.tb
        go_wp2_with fail
        go_meet
        case rel => exact ⟨rfl, hF⟩
      · as_aux_lemma =>
        rw [h2] at hv
        subst hv
        have d1 : (hiI a == hiI b) = false := beq_eq_false_iff_ne.2 (by omega)
        clear h1 h2 cc
        obtain ⟨p1, p2, p3, p4⟩ := id hF.ta
        obtain ⟨q1, q2, q3, q4⟩ := id hF.tb
        go_wp2_with fail
        refine (cc2 _).mono ?_
        rintro e w6 ⟨rfl, b6⟩
        replace hF := hF.stays b6
        clear p1 p2 p3 p4 q1 q2 q3 q4
        obtain ⟨p1, p2, p3, p4⟩ := id hF.ta
        obtain ⟨q1, q2, q3, q4⟩ := id hF.tb
        go_wp2_with fail
        go_meet
        case rel => exact ⟨rfl, hF⟩
      · as_aux_lemma =>
        rw [h2] at hv
        subst hv
        have d1 : (hiI a == hiI b) = true := beq_iff_eq.2 h0
        have d2 : (loI a == loI b) = false := beq_eq_false_iff_ne.2 (by omega)
        clear h0 h1 h2 cc
        obtain ⟨p1, p2, p3, p4⟩ := id hF.ta
        obtain ⟨q1, q2, q3, q4⟩ := id hF.tb
        go_wp2_with fail
        refine (cc2 _).mono ?_
        rintro e w6 ⟨rfl, b6⟩
        replace hF := hF.stays b6
        clear p1 p2 p3 p4 q1 q2 q3 q4
        obtain ⟨p1, p2, p3, p4⟩ := id hF.ta
        obtain ⟨q1, q2, q3, q4⟩ := id hF.tb
        go_wp2_with fail
        go_meet
        case rel => exact ⟨rfl, hF⟩
      · as_aux_lemma =>
        rw [h2] at hv
        subst hv
        have d1 : (hiI a == hiI b) = true := beq_iff_eq.2 h0
        have d2 : (loI a == loI b) = false := beq_eq_false_iff_ne.2 (by omega)
        clear h0 h1 h2 cc
        obtain ⟨p1, p2, p3, p4⟩ := id hF.ta
        obtain ⟨q1, q2, q3, q4⟩ := id hF.tb
        go_wp2_with fail
        refine (cc2 _).mono ?_
        rintro e w6 ⟨rfl, b6⟩
        replace hF := hF.stays b6
        clear p1 p2 p3 p4 q1 q2 q3 q4
        obtain ⟨p1, p2, p3, p4⟩ := id hF.ta
        obtain ⟨q1, q2, q3, q4⟩ := id hF.tb
        go_wp2_with fail
        go_meet
        case rel => exact ⟨rfl, hF⟩
      · as_aux_lemma =>
        rw [h2] at hv
        subst hv
        have d1 : (hiI a == hiI b) = true := beq_iff_eq.2 h0
        have d2 : (loI a == loI b) = true := beq_iff_eq.2 h1
        clear h0 h1 h2 cc
        obtain ⟨p1, p2, p3, p4⟩ := id hF.ta
        obtain ⟨q1, q2, q3, q4⟩ := id hF.tb
        go_wp2_with fail
        refine (cc2 _).mono ?_
        rintro e w6 ⟨rfl, b6⟩
        replace hF := hF.stays b6
        clear p1 p2 p3 p4 q1 q2 q3 q4
        obtain ⟨p1, p2, p3, p4⟩ := id hF.ta
        obtain ⟨q1, q2, q3, q4⟩ := id hF.tb
        go_wp2_with fail
        go_meet
        case rel => exact ⟨rfl, hF⟩
    case rest => as_aux_lemma =>
      obtain ⟨rfl, hF⟩ := hcut
      clear cc cc2 hcc
      go_upto_region 8 with fail
      go_cut [7] (fun s7 wx => ∃ nb : Bool, s7 = .bool nb ∧ Hid (nb = true → In (a - b)) ∧ Fl w wx ga gb a b x y z)
      case first => as_aux_lemma =>
        by_cases g1 : -4611686018427387904 < hiI a
        · by_cases g2 : hiI a < 4611686018427387904
          · by_cases g3 : -4611686018427387904 < hiI b
            · by_cases g4 : hiI b < 4611686018427387904
              · have hin : In (a - b) := by
                  rw [ia.out.hi] at g1 g2
                  rw [ib.out.hi] at g3 g4
                  unfold In; omega
                replace hin := Lib.hid hin
                obtain ⟨p1, p2, p3, p4⟩ := id hF.ta
                obtain ⟨q1, q2, q3, q4⟩ := id hF.tb
                go_wp2_with fail
                go_meet
                case rel => exact ⟨true, rfl, fun _ => hin.out, hF⟩
              · obtain ⟨p1, p2, p3, p4⟩ := id hF.ta
                obtain ⟨q1, q2, q3, q4⟩ := id hF.tb
                go_wp2_with fail
                go_meet
                case rel => exact ⟨false, rfl, (fun h => by cases h), hF⟩
            · obtain ⟨p1, p2, p3, p4⟩ := id hF.ta
              obtain ⟨q1, q2, q3, q4⟩ := id hF.tb
              go_wp2_with fail
              go_meet
              case rel => exact ⟨false, rfl, (fun h => by cases h), hF⟩
          · obtain ⟨p1, p2, p3, p4⟩ := id hF.ta
            obtain ⟨q1, q2, q3, q4⟩ := id hF.tb
            go_wp2_with fail
            go_meet
            case rel => exact ⟨false, rfl, (fun h => by cases h), hF⟩
        · obtain ⟨p1, p2, p3, p4⟩ := id hF.ta
          obtain ⟨q1, q2, q3, q4⟩ := id hF.tb
          go_wp2_with fail
          go_meet
          case rel => exact ⟨false, rfl, (fun h => by cases h), hF⟩
      case rest => as_aux_lemma =>
        obtain ⟨nb, rfl, hnb, hF⟩ := hcut
        go_upto_region 9 with fail
        go_cut [99] (fun s99 wx => s99 = .bool false ∧ Fl w wx ga gb a b x y z)
        case first => as_aux_lemma =>
          cases nb
          · go_wp2_with fail
            go_meet
            case rel => exact ⟨rfl, hF⟩
          · have hin := hnb.out rfl
            have cg := sign_any hin
            rw [show cmpI (a - b) 0 = cmpI a b by unfold cmpI; split <;> split <;> (try split) <;> (try split) <;> omega, ← hn.out] at cg
            unfold I128 at cg
            clear hin hnb
            obtain ⟨p1, p2, p3, p4⟩ := id hF.ta
            obtain ⟨q1, q2, q3, q4⟩ := id hF.tb
            go_wp2_with fail
            refine (cs3 _).mono ?_
            rintro e w7 ⟨rfl, b7⟩
            replace hF := hF.stays b7
            clear p1 p2 p3 p4 q1 q2 q3 q4
            go_wp2_with fail
            refine (cg _).mono ?_
            rintro e w8 ⟨rfl, b8⟩
            replace hF := hF.stays b8
            go_wp2_with fail
            go_meet
            case rel => exact ⟨rfl, hF⟩
        case rest => as_aux_lemma =>
          obtain ⟨rfl, hF⟩ := hcut
          clear hnb cs3
          have cpr := fun w h => print_any ia.out w h
          have cpa := fun w h => parse_any (itoa a) (by have := itoa_short ia.out; omega) w h
          unfold I128 at cpr cpa
          obtain ⟨p1, p2, p3, p4⟩ := id hF.ta
          obtain ⟨q1, q2, q3, q4⟩ := id hF.tb
          go_wp2_with fail
          refine (cpr _ (htab.stays hF.low)).mono ?_
          rintro e w9 ⟨rfl, b9⟩
          replace hF := hF.stays b9
          clear p1 p2 p3 p4 q1 q2 q3 q4 b9
          go_wp2_with fail
          refine (cpa _ (htab.stays hF.low)).mono ?_
          rintro e w10 ⟨⟨v, er, rfl, hans⟩, b10⟩
          obtain ⟨ev, ee⟩ := hans.same (Or.inl ⟨ia.out, rfl, rfl⟩)
          rw [ev, ee]
          replace hF := (hF.stays b10).allocs (.cells #[.int .i64 (hiI a), .int .u64 (loI a)] 25)
          clear hans b10 cpr cpa ev ee
          obtain ⟨p1, p2, p3, p4⟩ := id hF.ta
          obtain ⟨q1, q2, q3, q4⟩ := id hF.tb
          go_wp2_with fail
          have cfa := fun w => Wf.float_any ia.out w
          have cfb := fun w => Wf.float_any ib.out w
          unfold I128 at cfa cfb
          refine Reg.region_below (by kernel_rfl) (by kernel_rfl) ?_
          intro S _ f hf hs
          have c0 := Reg.keepc hf hF.la hF.ta.1
          have c1 := Reg.keepc hf hF.la hF.ta.2.1
          have c2 := Reg.keepc hf hF.lb hF.tb.1
          have c3 := Reg.keepc hf hF.lb hF.tb.2.1
          clear p1 p2 p3 p4 q1 q2 q3 q4
          repeat (go_big_quiet_step ((first | (go_at_call 34; with_reducible exact Reg.met hs (cfa _)) | (go_at_call 34; with_reducible exact Reg.met hs (cfb _)))))
          refine wpQuiet_nil ?_
          intro s
          replace hF := hF.stays (hf s)
          obtain ⟨w11, hw11⟩ : ∃ w11, w11 = f s := ⟨_, rfl⟩
          rw [← hw11] at hF ⊢
          clear hw11 hs hf c0 c1 c2 c3 cfa
          go_upto_region 15 with fail
          go_cut [154] (fun s154 wx => s154 = .bool false ∧ Fl w wx ga gb a b x y z)
          case first => as_aux_lemma =>
            have hord : (n = -1 ∧ a < b) ∨ (n = 0 ∧ a = b) ∨ (n = 1 ∧ b < a) := by
              have := hn.out; rw [this]; unfold cmpI; split
              · omega
              · split <;> omega
            have cn3 := neg_any b
            have cr := Wf.ng_run (a := b) ib.out
            have hmin : b = -170141183460469231731687303715884105728 ∨ b ≠ -170141183460469231731687303715884105728 := by omega
            rcases hmin with hmin | hmin
            · have t1 := Wf.neg_least
              rw [← hmin] at t1
              have t2 : (hiI b == -9223372036854775808) = true := by rw [hmin]; decide
              have t3 : (loI b == 0) = true := by rw [hmin]; decide
              have t4 : I128 (-b) = I128 b := by rw [hmin]; exact least_same
              rw [t4] at cn3
              unfold I128 at cn3
              clear t4 hmin
              rcases hord with ⟨h1, h2⟩ | ⟨h1, h2⟩ | ⟨h1, h2⟩
              · as_aux_lemma =>
                have f1 := Wf.not_gt ia.out ib.out (by omega)
                subst h1; clear h2
                obtain ⟨p1, p2, p3, p4⟩ := id hF.ta
                obtain ⟨q1, q2, q3, q4⟩ := id hF.tb
                go_wp2_with fail
                refine (cn3 _).mono ?_
                rintro e w12 ⟨rfl, b12⟩
                replace hF := hF.stays b12
                clear p1 p2 p3 p4 q1 q2 q3 q4
                obtain ⟨p1, p2, p3, p4⟩ := id hF.ta
                obtain ⟨q1, q2, q3, q4⟩ := id hF.tb
                go_wp2_with fail
                refine (cfb _).mono ?_
                rintro e w13 ⟨rfl, b13⟩
                replace hF := hF.stays b13
                clear p1 p2 p3 p4 q1 q2 q3 q4
                obtain ⟨p1, p2, p3, p4⟩ := id hF.ta
                obtain ⟨q1, q2, q3, q4⟩ := id hF.tb
                go_wp2_with fail
                go_meet
                case rel => exact ⟨rfl, hF⟩
              · as_aux_lemma =>
                have f1 := Wf.is_eq ia.out ib.out h2
                subst h1; clear h2
                obtain ⟨p1, p2, p3, p4⟩ := id hF.ta
                obtain ⟨q1, q2, q3, q4⟩ := id hF.tb
                go_wp2_with fail
                refine (cn3 _).mono ?_
                rintro e w12 ⟨rfl, b12⟩
                replace hF := hF.stays b12
                clear p1 p2 p3 p4 q1 q2 q3 q4
                obtain ⟨p1, p2, p3, p4⟩ := id hF.ta
                obtain ⟨q1, q2, q3, q4⟩ := id hF.tb
                go_wp2_with fail
                refine (cfb _).mono ?_
                rintro e w13 ⟨rfl, b13⟩
                replace hF := hF.stays b13
                clear p1 p2 p3 p4 q1 q2 q3 q4
                obtain ⟨p1, p2, p3, p4⟩ := id hF.ta
                obtain ⟨q1, q2, q3, q4⟩ := id hF.tb
                go_wp2_with fail
                go_meet
                case rel => exact ⟨rfl, hF⟩
              · as_aux_lemma =>
                have f1 := Wf.not_lt ia.out ib.out (by omega)
                subst h1; clear h2
                obtain ⟨p1, p2, p3, p4⟩ := id hF.ta
                obtain ⟨q1, q2, q3, q4⟩ := id hF.tb
                go_wp2_with fail
                refine (cn3 _).mono ?_
                rintro e w12 ⟨rfl, b12⟩
                replace hF := hF.stays b12
                clear p1 p2 p3 p4 q1 q2 q3 q4
                obtain ⟨p1, p2, p3, p4⟩ := id hF.ta
                obtain ⟨q1, q2, q3, q4⟩ := id hF.tb
                go_wp2_with fail
                refine (cfb _).mono ?_
                rintro e w13 ⟨rfl, b13⟩
                replace hF := hF.stays b13
                clear p1 p2 p3 p4 q1 q2 q3 q4
                obtain ⟨p1, p2, p3, p4⟩ := id hF.ta
                obtain ⟨q1, q2, q3, q4⟩ := id hF.tb
                go_wp2_with fail
                go_meet
                case rel => exact ⟨rfl, hF⟩
            · have hin : In (-b) := by have := ib.out; unfold In at this ⊢; omega
              have t1 := Wf.neg_eq ib.out hin
              have cfn := fun w => Wf.float_any hin w
              unfold I128 at cn3 cfn
              clear hmin hin
              rcases hord with ⟨h1, h2⟩ | ⟨h1, h2⟩ | ⟨h1, h2⟩
              · as_aux_lemma =>
                have f1 := Wf.not_gt ia.out ib.out (by omega)
                subst h1; clear h2
                obtain ⟨p1, p2, p3, p4⟩ := id hF.ta
                obtain ⟨q1, q2, q3, q4⟩ := id hF.tb
                go_wp2_with fail
                refine (cn3 _).mono ?_
                rintro e w12 ⟨rfl, b12⟩
                replace hF := hF.stays b12
                clear p1 p2 p3 p4 q1 q2 q3 q4
                obtain ⟨p1, p2, p3, p4⟩ := id hF.ta
                obtain ⟨q1, q2, q3, q4⟩ := id hF.tb
                go_wp2_with fail
                refine (cfn _).mono ?_
                rintro e w13 ⟨rfl, b13⟩
                replace hF := hF.stays b13
                clear p1 p2 p3 p4 q1 q2 q3 q4
                obtain ⟨p1, p2, p3, p4⟩ := id hF.ta
                obtain ⟨q1, q2, q3, q4⟩ := id hF.tb
                go_wp2_with fail
                go_meet
                case rel => exact ⟨rfl, hF⟩
              · as_aux_lemma =>
                have f1 := Wf.is_eq ia.out ib.out h2
                subst h1; clear h2
                obtain ⟨p1, p2, p3, p4⟩ := id hF.ta
                obtain ⟨q1, q2, q3, q4⟩ := id hF.tb
                go_wp2_with fail
                refine (cn3 _).mono ?_
                rintro e w12 ⟨rfl, b12⟩
                replace hF := hF.stays b12
                clear p1 p2 p3 p4 q1 q2 q3 q4
                obtain ⟨p1, p2, p3, p4⟩ := id hF.ta
                obtain ⟨q1, q2, q3, q4⟩ := id hF.tb
                go_wp2_with fail
                refine (cfn _).mono ?_
                rintro e w13 ⟨rfl, b13⟩
                replace hF := hF.stays b13
                clear p1 p2 p3 p4 q1 q2 q3 q4
                obtain ⟨p1, p2, p3, p4⟩ := id hF.ta
                obtain ⟨q1, q2, q3, q4⟩ := id hF.tb
                go_wp2_with fail
                go_meet
                case rel => exact ⟨rfl, hF⟩
              · as_aux_lemma =>
                have f1 := Wf.not_lt ia.out ib.out (by omega)
                subst h1; clear h2
                obtain ⟨p1, p2, p3, p4⟩ := id hF.ta
                obtain ⟨q1, q2, q3, q4⟩ := id hF.tb
                go_wp2_with fail
                refine (cn3 _).mono ?_
                rintro e w12 ⟨rfl, b12⟩
                replace hF := hF.stays b12
                clear p1 p2 p3 p4 q1 q2 q3 q4
                obtain ⟨p1, p2, p3, p4⟩ := id hF.ta
                obtain ⟨q1, q2, q3, q4⟩ := id hF.tb
                go_wp2_with fail
                refine (cfn _).mono ?_
                rintro e w13 ⟨rfl, b13⟩
                replace hF := hF.stays b13
                clear p1 p2 p3 p4 q1 q2 q3 q4
                obtain ⟨p1, p2, p3, p4⟩ := id hF.ta
                obtain ⟨q1, q2, q3, q4⟩ := id hF.tb
                go_wp2_with fail
                go_meet
                case rel => exact ⟨rfl, hF⟩
          case rest => as_aux_lemma =>
            obtain ⟨rfl, hF⟩ := hcut
            have cx := hF.cx
            have cy := hF.cy
            have cz := hF.cz
            go_wp2_with fail
            refine (cpp _).mono ?_
            rintro e w14 ⟨rfl, b14⟩
            replace hF := hF.stays b14
            clear cx cy cz
            go_wp2_with fail
            refine (cf _ (htab.stays hF.low)).mono ?_
            rintro e w15 ⟨rfl, b15⟩
            replace hF := hF.stays b15
            go_wp2
            go_ret
            exact ⟨rfl, hF.low⟩

end Go.Proofs.YtepmcblnhibfeaaDoor.Wi
