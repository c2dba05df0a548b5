/- The document's Unhelp. -/
import Derived.Test.YtgjcdhcbniholaaRp7
namespace Go.Proofs.Ytgjcdhcbniholaa.Rp
open Go.RowKit Go.Proofs.Ytgjcdhcbniholaa.La
set_option linter.unusedVariables false

set_option maxRecDepth 100000 in
set_option maxHeartbeats 8000000 in
theorem runhelp_any (s : ByteArray) (hs : s.size ≤ 70368744177664) (w : World) :
    Calls Try.prog 18 #[.string s] w fun e w' => e = unhE (unhR s) ∧ Below w.heap.size w w' := by
  obtain ⟨i0, hi0, hz0, hz1, hz2⟩ := info_parts La.infoU8
  go_enter Try.func18, Try.ntmps18
  go_wp2
  go_loopw [4, 5] (fun a v wr => ∃ (f i L : Nat) (A : Option Addr) (c : Nat) (acc : List UInt8), a = .slice A L c ∧ v = .int .i64 (i : Int) ∧ i ≤ s.size ∧ Hid (L = acc.length) ∧ L ≤ i ∧ s.size < f + i ∧ Hid (unhF s f i acc = unhR s) ∧ wr.ownsRow w.heap.size 5 1 (.slice A L c) L (La.bc acc) ∧ Below w.heap.size w wr) (fun _ v _ => s.size + 1 - natOf v)
  case atStart => exact ⟨s.size + 1, 0, 0, _, 0, [], rfl, rfl, Nat.zero_le _, rfl, Nat.le_refl _, by omega, rfl, World.ownsRow_made w #[] 0 (Nat.le_refl _) (by decide) rfl, (Below.refl _ _).alloc (Nat.le_refl _) _⟩
  case round =>
    obtain ⟨f, i, L, A, c, acc, rfl, rfl, hil, hL, hLi, hf, hu, ho, hb⟩ := hrel
    obtain ⟨f, rfl⟩ : ∃ f', f = f' + 1 := ⟨f - 1, by omega⟩
    have hsw := hb.size
    have hu' := hu.out
    rw [unhF] at hu'
    have hup : ∀ k, (Value.slice A L c).ownBlock = some k → w.heap.size ≤ k := fun k hk => La.own_up ho hk
    replace hup := Lib.hid hup
    have hiI : (i : Int) ≤ 70368744177664 := by omega
    have hL3 : L + 2 ≤ 140737488355328 := by omega
    clear hu
    by_cases hlt : i < s.size
    · rw [dif_pos hlt] at hu'
      have hltI : (i : Int) < (s.size : Int) := by omega
      clear hs
      by_cases hnl : s[i] = 10
      · rw [if_pos hnl] at hu'
        have t1 : ((s[i].toNat : Int) == 10) = true := by rw [hnl]; rfl
        clear hnl
        replace hu' := Lib.hid hu'
        replace ho := Lib.hid ho
        go_wp2
        go_ret2
        exact ⟨by rw [← hu'.out]; rfl, hb⟩
      · rw [if_neg hnl] at hu'
        have t1 : ((s[i].toNat : Int) == 10) = false := by rw [u8_lit s[i] 10 10 rfl]; exact decide_eq_false hnl
        by_cases hbs : s[i] = 92
        · rw [if_pos hbs] at hu'
          have t2 : ((s[i].toNat : Int) == 92) = true := by rw [hbs]; rfl
          obtain ⟨q, hq1, hq2⟩ : ∃ q : Nat, q = i + 1 ∧ ((i : Int) + 1 = (q : Int)) := ⟨i + 1, rfl, by omega⟩
          have hqI : (q : Int) ≤ 70368744177665 := by omega
          by_cases hlt2 : i + 1 < s.size
          · rw [dif_pos hlt2] at hu'
            have hq : q < s.size := by omega
            have e0 : s[i + 1] = s[q] := by simp only [hq1]
            rw [e0] at hu'
            have g1 : ((q : Int) == (s.size : Int)) = false := by simp; omega
            have g2 : (q : Int) < (s.size : Int) := by omega
            by_cases h92 : s[q] = 92
            · rw [if_pos h92] at hu'
              have t3 : ((s[q].toNat : Int) != 92) = false := by rw [h92]; rfl
              have t4 : ((s[q].toNat : Int) == 110) = false := by rw [h92]; rfl
              have t5 : ((s[q].toNat : Int)) = 92 := by rw [h92]; rfl
              clear h92 hbs hnl e0
              replace hu' := Lib.hid hu'
              replace hq1 := Lib.hid hq1
              replace t5 := Lib.hid t5
              go_wp2_with (at_builtin; refine wpList_append_lies _ rfl _ _ _ rfl w.heap.size 5 i0 _ 1 1 Try.underlying48 hi0 hz0 hz1 hz2 rfl (by decide) _ L _ (by rfl) (ho.alloc _) ⟨wr.heap.size, 0, none⟩ 1 1 [.int .u8 (s[q].toNat : Int)] (by rfl) (by rfl) (World.news_of_block (cs := #[.int .u8 (s[q].toNat : Int)]) (heap_alloc_new _ _)) (by intro u hu; simp at hu; subst hu; rfl) (by omega) (by unfold maxLen; omega) (by omega) (by simp; omega) _ rfl ?_; intro gg cap w1 hown1 hgrow hat hlt1)
              have hb1 : Below w.heap.size w w1 := (hb.alloc hsw _).grown hgrow (by simp; omega) hup.out
              exact ⟨⟨f, i + 2, L + 1, some ⟨gg, 0, none⟩, cap, acc ++ [92], rfl, by have := hq1.out; simp; try omega, by omega, Lib.hid (by rw [List.length_append, ← hL.out]; rfl), by omega, by omega, hu', (by have := hown1; rw [t5.out] at this; simpa [La.bc] using this), hb1⟩, by have := hq1.out; simp [natOf]; omega⟩
            · rw [if_neg h92] at hu'
              have t3 : ((s[q].toNat : Int) != 92) = true := by rw [bne, u8_lit s[q] 92 92 rfl]; simpa using h92
              by_cases h110 : s[q] = 110
              · rw [if_pos h110] at hu'
                have t4 : ((s[q].toNat : Int) != 110) = false := by rw [h110]; rfl
                have t6 : ((s[q].toNat : Int) == 110) = true := by rw [h110]; rfl
                clear h92 h110 hbs hnl e0
                replace hu' := Lib.hid hu'
                replace hq1 := Lib.hid hq1
                go_wp2_with (at_builtin; refine wpList_append_lies _ rfl _ _ _ rfl w.heap.size 5 i0 _ 1 1 Try.underlying48 hi0 hz0 hz1 hz2 rfl (by decide) _ L _ (by rfl) (ho.alloc _) ⟨wr.heap.size, 0, none⟩ 1 1 [.int .u8 10] (by rfl) (by rfl) (World.news_of_block (cs := #[.int .u8 10]) (heap_alloc_new _ _)) (by intro u hu; simp at hu; subst hu; rfl) (by omega) (by unfold maxLen; omega) (by omega) (by simp; omega) _ rfl ?_; intro gg cap w1 hown1 hgrow hat hlt1)
                have hb1 : Below w.heap.size w w1 := (hb.alloc hsw _).grown hgrow (by simp; omega) hup.out
                exact ⟨⟨f, i + 2, L + 1, some ⟨gg, 0, none⟩, cap, acc ++ [10], rfl, by have := hq1.out; simp; try omega, by omega, Lib.hid (by rw [List.length_append, ← hL.out]; rfl), by omega, by omega, hu', by simpa [La.bc] using hown1, hb1⟩, by have := hq1.out; simp [natOf]; omega⟩
              · rw [if_neg h110] at hu'
                have t4 : ((s[q].toNat : Int) != 110) = true := by rw [bne, u8_lit s[q] 110 110 rfl]; simpa using h110
                clear h92 h110 hbs hnl e0
                replace hu' := Lib.hid hu'
                replace hq1 := Lib.hid hq1
                replace ho := Lib.hid ho
                go_wp2
                go_ret2
                exact ⟨by rw [← hu'.out]; rfl, hb⟩
          · rw [dif_neg hlt2] at hu'
            have g1 : ((q : Int) == (s.size : Int)) = true := by simp; omega
            clear hbs hnl
            replace hu' := Lib.hid hu'
            replace hq1 := Lib.hid hq1
            replace ho := Lib.hid ho
            go_wp2
            go_ret2
            exact ⟨by rw [← hu'.out]; rfl, hb⟩
        · rw [if_neg hbs] at hu'
          have t2 : ((s[i].toNat : Int) == 92) = false := by rw [u8_lit s[i] 92 92 rfl]; exact decide_eq_false hbs
          clear hbs hnl
          replace hu' := Lib.hid hu'
          go_wp2_with (at_builtin; refine wpList_append_lies _ rfl _ _ _ rfl w.heap.size 5 i0 _ 1 1 Try.underlying48 hi0 hz0 hz1 hz2 rfl (by decide) _ L _ (by rfl) (ho.alloc _) ⟨wr.heap.size, 0, none⟩ 1 1 [.int .u8 (s[i].toNat : Int)] (by rfl) (by rfl) (World.news_of_block (cs := #[.int .u8 (s[i].toNat : Int)]) (heap_alloc_new _ _)) (by intro u hu; simp at hu; subst hu; rfl) (by omega) (by unfold maxLen; omega) (by omega) (by simp; omega) _ rfl ?_; intro gg cap w1 hown1 hgrow hat hlt1)
          have hb1 : Below w.heap.size w w1 := (hb.alloc hsw _).grown hgrow (by simp; omega) hup.out
          exact ⟨⟨f, i + 1, L + 1, some ⟨gg, 0, none⟩, cap, acc ++ [s[i]], rfl, by simp; try omega, by omega, Lib.hid (by rw [List.length_append, ← hL.out]; rfl), by omega, by omega, hu', by simpa [La.bc] using hown1, hb1⟩, by simp [natOf]; omega⟩
    · rw [dif_neg hlt] at hu'
      have hge : ¬ (i : Int) < (s.size : Int) := by omega
      have hge2 : s.size ≤ i := by omega
      clear hs
      obtain rfl : L = acc.length := hL.out
      have hcv := La.conv_own ho
      replace hu' := Lib.hid hu'
      replace ho := Lib.hid ho
      clear hL
      go_wp2
      go_ret2
      exact ⟨by rw [← hu'.out]; rfl, hb⟩
end Go.Proofs.Ytgjcdhcbniholaa.Rp
