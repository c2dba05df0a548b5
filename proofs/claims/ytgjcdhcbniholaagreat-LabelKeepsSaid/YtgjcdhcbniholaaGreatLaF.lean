/- Unhelp. -/
import Derived.Test.YtgjcdhcbniholaaGreatLaE
import Derived.Test.YtgjcdhcbniholaaGreatBd
namespace Go.Proofs.YtgjcdhcbniholaaGreat.La
open Go.RowKit Go.Proofs.YtgjcdhcbniholaaGreat.Bd
set_option linter.unusedVariables false

/-- The help of a text. -/
def unhF (s : ByteArray) : Nat → Nat → List UInt8 → Option (List UInt8)
  | 0, _, acc => some acc
  | f + 1, i, acc =>
    if h : i < s.size then
      if s[i] = 10 then none
      else if s[i] = 92 then
        (if h2 : i + 1 < s.size then (if s[i + 1] = 92 then unhF s f (i + 2) (acc ++ [92]) else if s[i + 1] = 110 then unhF s f (i + 2) (acc ++ [10]) else none) else none)
      else unhF s f (i + 1) (acc ++ [s[i]])
    else some acc
def unhR (s : ByteArray) : Option (List UInt8) := unhF s (s.size + 1) 0 []

def unhE (r : Option (List UInt8)) : Ending := match r with
  | some l => .returned (.tuple #[.string ⟨l.toArray⟩, .bool true])
  | none => .returned (.tuple #[.string ⟨#[]⟩, .bool false])

theorem cells_snoc (l : List UInt8) (c : UInt8) : Lib.byteCells (l ++ [c]) = Lib.byteCells l ++ [.int .u8 (c.toNat : Int)] := by simp [Lib.byteCells]

def natOf : Value → Nat
  | .int _ n => n.toNat
  | _ => 0

set_option maxRecDepth 100000 in
set_option maxHeartbeats 4000000 in
theorem unhelp_any (s : ByteArray) (hs : s.size ≤ 140737488355328) (w : World) :
    Calls Tryz.prog 13 #[.string s] w fun e w' => e = unhE (unhR s) ∧ Below w.heap.size w w' := by
  go_enter Tryz.func13, Tryz.ntmps13
  go_wp2
  go_loopw [5] (fun v wr => ∃ (f i : Nat) (acc : List UInt8), v = .int .i64 i ∧ i ≤ s.size ∧ acc.length ≤ i ∧ s.size < f + i ∧ Hid (unhF s f i acc = unhR s) ∧ IsB w.heap.size w.heap.size (Lib.byteCells acc) wr ∧ Below w.heap.size w wr) (fun v _ => s.size + 1 - natOf v)
  case atStart => exact ⟨s.size + 1, 0, [], rfl, Nat.zero_le _, Nat.le_refl _, by omega, rfl, Lib.fresh_isBuilder _ _ w, (Below.refl _ w).alloc (Nat.le_refl _) _⟩
  case round =>
    obtain ⟨f, i, acc, rfl, hi, hal, hf, hu, hb, hw⟩ := hrel
    obtain ⟨f, rfl⟩ : ∃ f', f = f' + 1 := ⟨f - 1, by omega⟩
    have hu' := hu.out
    rw [unhF] at hu'
    have hsz := hw.size
    have hiI : (i : Int) ≤ 140737488355328 := by omega
    have hbl : (Lib.byteCells acc).length + 1 ≤ 140737488355328 ∨ s.size ≤ i := by
      rw [Lib.byteCells_length]; omega
    have cW := fun (c : UInt8) h => writeByte w.heap.size w.heap.size (Lib.byteCells acc) (c.toNat : Int) wr hb h hsz
    clear hu
    by_cases hlt : i < s.size
    · rw [dif_pos hlt] at hu'
      have hbl := hbl.resolve_right (by omega)
      by_cases hnl : s[i] = 10
      · rw [if_pos hnl] at hu'
        have t1 : ((s[i].toNat : Int) == 10) = true := by rw [hnl]; rfl
        clear hnl cW hb hs
        replace hu' := Lib.hid hu'
        go_wp2
        go_ret2
        exact ⟨by rw [← hu'.out]; rfl, hw⟩
      · rw [if_neg hnl] at hu'
        have t1 : ((s[i].toNat : Int) == 10) = false := by rw [u8_lit s[i] 10 10 rfl]; exact decide_eq_false hnl
        by_cases hbs : s[i] = 92
        · rw [if_pos hbs] at hu'
          have t2 : ((s[i].toNat : Int) != 92) = false := by rw [hbs]; rfl
          obtain ⟨q, hq1, hq2⟩ : ∃ q : Nat, q = i + 1 ∧ ((i : Int) + 1 = (q : Int)) := ⟨i + 1, rfl, by omega⟩
          have hqI : (q : Int) ≤ 140737488355328 := by omega
          by_cases hlt2 : i + 1 < s.size
          · rw [dif_pos hlt2] at hu'
            have hq : q < s.size := by omega
            have e0 : s[i + 1] = s[q] := by simp only [hq1]
            rw [e0] at hu'
            have g1 : (q : Int) < (s.size : Int) := by omega
            by_cases h92 : s[q] = 92
            · rw [if_pos h92] at hu'
              have t3 : ((s[q].toNat : Int) == 92) = true := by rw [h92]; rfl
              clear h92
              have c := cW 92 hbl
              clear cW hs hb e0 hq1 hbs hnl
              replace c := Lib.hid c
              replace hu' := Lib.hid hu'
              go_wp2_with fail
              refine c.out.mono ?_
              rintro e w1 ⟨rfl, hb1, hw1⟩
              rw [show Lib.byteCells acc ++ [Value.int .u8 (((92 : UInt8).toNat : Int))] = Lib.byteCells (acc ++ [92]) from (cells_snoc acc 92).symm] at hb1
              replace hb1 := Lib.hid hb1
              have hw1 := hw.trans hw1
              go_wp2
              exact ⟨⟨f, i + 2, acc ++ [92], by simp; omega, by omega, by simp; omega, by omega, hu', .inr hb1.out, hw1⟩, by simp [natOf]; omega⟩
            · rw [if_neg h92] at hu'
              have t3 : ((s[q].toNat : Int) == 92) = false := by rw [u8_lit s[q] 92 92 rfl]; exact decide_eq_false h92
              by_cases h110 : s[q] = 110
              · rw [if_pos h110] at hu'
                have t4 : ((s[q].toNat : Int) == 110) = true := by rw [h110]; rfl
                clear h92 h110
                have c := cW 10 hbl
                clear cW hs hb e0 hq1 hbs hnl
                replace c := Lib.hid c
                replace hu' := Lib.hid hu'
                go_wp2_with fail
                refine c.out.mono ?_
                rintro e w1 ⟨rfl, hb1, hw1⟩
                rw [show Lib.byteCells acc ++ [Value.int .u8 (((10 : UInt8).toNat : Int))] = Lib.byteCells (acc ++ [10]) from (cells_snoc acc 10).symm] at hb1
                replace hb1 := Lib.hid hb1
                have hw1 := hw.trans hw1
                go_wp2
                exact ⟨⟨f, i + 2, acc ++ [10], by simp; omega, by omega, by simp; omega, by omega, hu', .inr hb1.out, hw1⟩, by simp [natOf]; omega⟩
              · rw [if_neg h110] at hu'
                have t4 : ((s[q].toNat : Int) == 110) = false := by rw [u8_lit s[q] 110 110 rfl]; exact decide_eq_false h110
                clear cW hs hb h92 h110 e0 hq1 hbs hnl
                replace hu' := Lib.hid hu'
                go_wp2
                go_ret2
                exact ⟨by rw [← hu'.out]; rfl, hw⟩
          · rw [dif_neg hlt2] at hu'
            have g1 : ¬ (q : Int) < (s.size : Int) := by omega
            have g2 : s.size ≤ q := by omega
            clear cW hs hb hq1 hbs hnl
            replace hu' := Lib.hid hu'
            go_wp2
            go_ret2
            exact ⟨by rw [← hu'.out]; rfl, hw⟩
        · rw [if_neg hbs] at hu'
          have t2 : ((s[i].toNat : Int) != 92) = true := by rw [bne, u8_lit s[i] 92 92 rfl]; simpa using hbs
          have c := cW s[i] hbl
          clear cW hnl hbs hs hb
          replace c := Lib.hid c
          replace hu' := Lib.hid hu'
          go_wp2_with fail
          refine c.out.mono ?_
          rintro e w1 ⟨rfl, hb1, hw1⟩
          rw [← cells_snoc] at hb1
          replace hb1 := Lib.hid hb1
          have hw1 := hw.trans hw1
          go_wp2
          exact ⟨⟨f, i + 1, acc ++ [s[i]], by simp, by omega, by simp; omega, by omega, hu', .inr hb1.out, hw1⟩, by simp [natOf]; omega⟩
    · rw [dif_neg hlt] at hu'
      have hge : ¬ (i : Int) < (s.size : Int) := by omega
      clear cW hbl hs
      have hge2 : s.size ≤ i := by omega
      have c := Tryz.Builder_String_any w.heap.size w.heap.size acc wr hb hsz
      replace c := Lib.hid c
      replace hu' := Lib.hid hu'
      go_wp2_with fail
      refine c.out.mono ?_
      rintro e w1 ⟨rfl, hw1⟩
      go_wp2
      go_ret2
      exact ⟨by rw [← hu'.out]; rfl, hw.trans hw1⟩

end Go.Proofs.YtgjcdhcbniholaaGreat.La
