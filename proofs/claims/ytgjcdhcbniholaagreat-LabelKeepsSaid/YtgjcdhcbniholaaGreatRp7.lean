/- The document's Help and escaped. -/
import Derived.Test.YtgjcdhcbniholaaGreatRp6
namespace Go.Proofs.YtgjcdhcbniholaaGreat.Rp
open Go.RowKit
set_option linter.unusedVariables false

def psOf (quote : Bool) : List Pr := if quote then pP else pH

theorem esc_bs (q : Bool) : esc (psOf q) 92 = [92, 92] := by cases q <;> rfl
theorem esc_nl (q : Bool) : esc (psOf q) 10 = [92, 110] := by cases q <;> rfl
theorem esc_qt : esc (psOf true) 34 = [92, 34] := rfl
theorem esc_else (q : Bool) (b : UInt8) (h1 : b ≠ 92) (h2 : b ≠ 10) (h3 : q = true → b ≠ 34) : esc (psOf q) b = [b] := by
  have e1 : (b == 92) = false := by simpa using h1
  have e2 : (b == 10) = false := by simpa using h2
  cases q
  · have : pH.lookup b = none := by simp only [pH, List.lookup_cons, e1, e2, List.lookup_nil]
    show esc pH b = [b]
    rw [esc, this]
  · have e3 : (b == 34) = false := by simpa using h3 rfl
    have : pP.lookup b = none := by simp only [pP, List.lookup_cons, e1, e2, e3, List.lookup_nil]
    show esc pP b = [b]
    rw [esc, this]

theorem escL_two (ps : List Pr) (s : ByteArray) (i : Nat) (hi : i ≤ s.size) : (escL ps (s.data.toList.take i)).length ≤ 2 * i := by
  rw [escL_len]
  have := hits_le ps (s.data.toList.take i)
  simp at *
  omega

set_option maxRecDepth 100000 in
set_option maxHeartbeats 8000000 in
theorem escaped_any (s : ByteArray) (q : Bool) (hs : s.size ≤ 70368744177664) (w : World) :
    Calls Tryz.prog 43 #[.string s, .bool q] w fun e w' => e = .returned (.string (escS (psOf q) s)) ∧ Below w.heap.size w w' := by
  obtain ⟨i0, hi0, hz0, hz1, hz2⟩ := info_parts La.infoU8
  go_enter Tryz.func43, Tryz.ntmps43
  go_wp2
  go_loopw [5, 6] (fun a v wr => ∃ (i L : Nat) (A : Option Addr) (c : Nat), a = .slice A L c ∧ v = .int .i64 (i : Int) ∧ i ≤ s.size ∧ Hid (L = (escL (psOf q) (s.data.toList.take i)).length) ∧ wr.ownsRow w.heap.size 5 1 (.slice A L c) L (La.bc (escL (psOf q) (s.data.toList.take i))) ∧ Below w.heap.size w wr) (fun _ v _ => s.size + 1 - natOf v)
  case atStart => exact ⟨0, 0, _, 0, rfl, rfl, Nat.zero_le _, rfl, World.ownsRow_made w #[] 0 (Nat.le_refl _) (by decide) rfl, (Below.refl _ _).alloc (Nat.le_refl _) _⟩
  case round =>
    obtain ⟨i, L, A, c, rfl, rfl, hil, hL, ho, hb⟩ := hrel
    have hsw := hb.size
    by_cases hlt : i < s.size
    · have hltI : (i : Int) < (s.size : Int) := by omega
      have hL2 : L ≤ 2 * i := by rw [hL.out]; exact escL_two _ s i hil
      have hst := escL_step (psOf q) s i hlt
      have hL3 : L + 2 ≤ 140737488355328 := by omega
      have hup : ∀ k, (Value.slice A L c).ownBlock = some k → w.heap.size ≤ k := fun k hk => La.own_up ho hk
      obtain ⟨E, hE⟩ : ∃ E, E = escL (psOf q) (s.data.toList.take i) := ⟨_, rfl⟩
      rw [← hE] at hL ho hst
      replace hE := Lib.hid hE
      replace hup := Lib.hid hup
      have hiI : (i : Int) ≤ 70368744177664 := by omega
      clear hil hs hL2
      by_cases h92 : s[i] = 92
      · have he : esc (psOf q) s[i] = [92, s[i]] := by rw [h92]; exact esc_bs q
        have t1 : ((s[i].toNat : Int) == 92) = true := by rw [La.u8_lit s[i] 92 92 rfl]; exact decide_eq_true h92
        rw [he] at hst
        replace hst := Lib.hid hst
        clear h92 he
        go_wp2_with (at_builtin; refine wpList_append_lies _ rfl _ _ _ rfl w.heap.size 5 i0 _ 1 1 Tryz.underlying62 hi0 hz0 hz1 hz2 rfl (by decide) _ L _ (by rfl) (ho.alloc _) ⟨wr.heap.size, 0, none⟩ 2 2 [.int .u8 92, .int .u8 (s[i].toNat : Int)] (by rfl) (by rfl) (World.news_of_block (cs := #[.int .u8 92, .int .u8 (s[i].toNat : Int)]) (heap_alloc_new _ _)) (by intro u hu; simp at hu; rcases hu with rfl | rfl <;> rfl) (by omega) (by unfold maxLen; omega) (by omega) (by simp; omega) _ rfl ?_; intro gg cap w1 hown1 hgrow hat hlt1)
        have hb1 : Below w.heap.size w w1 := (hb.alloc hsw _).grown hgrow (by simp; omega) hup.out
        refine ⟨⟨i + 1, L + 2, some ⟨gg, 0, none⟩, cap, rfl, by simp, hlt, Lib.hid (by rw [hst.out, List.length_append, ← hL.out]; rfl), ?_, hb1⟩, by simp [natOf]; omega⟩
        rw [hst.out]
        simpa [La.bc] using hown1
      · have t1 : ((s[i].toNat : Int) == 92) = false := by rw [La.u8_lit s[i] 92 92 rfl]; exact decide_eq_false h92
        by_cases h34 : q = true ∧ s[i] = 34
        · obtain ⟨rfl, h34⟩ := h34
          have he : esc (psOf true) s[i] = [92, s[i]] := by rw [h34]; rfl
          have t2 : ((s[i].toNat : Int) == 34) = true := by rw [La.u8_lit s[i] 34 34 rfl]; exact decide_eq_true h34
          rw [he] at hst
          replace hst := Lib.hid hst
          clear h34 he h92
          go_wp2_with (at_builtin; refine wpList_append_lies _ rfl _ _ _ rfl w.heap.size 5 i0 _ 1 1 Tryz.underlying62 hi0 hz0 hz1 hz2 rfl (by decide) _ L _ (by rfl) (ho.alloc _) ⟨wr.heap.size, 0, none⟩ 2 2 [.int .u8 92, .int .u8 (s[i].toNat : Int)] (by rfl) (by rfl) (World.news_of_block (cs := #[.int .u8 92, .int .u8 (s[i].toNat : Int)]) (heap_alloc_new _ _)) (by intro u hu; simp at hu; rcases hu with rfl | rfl <;> rfl) (by omega) (by unfold maxLen; omega) (by omega) (by simp; omega) _ rfl ?_; intro gg cap w1 hown1 hgrow hat hlt1)
          have hb1 : Below w.heap.size w w1 := (hb.alloc hsw _).grown hgrow (by simp; omega) hup.out
          refine ⟨⟨i + 1, L + 2, some ⟨gg, 0, none⟩, cap, rfl, by simp, hlt, Lib.hid (by rw [hst.out, List.length_append, ← hL.out]; rfl), ?_, hb1⟩, by simp [natOf]; omega⟩
          rw [hst.out]
          simpa [La.bc] using hown1
        · by_cases h10 : s[i] = 10
          · have he : esc (psOf q) s[i] = [92, 110] := by rw [h10]; exact esc_nl q
            have t2 : ((s[i].toNat : Int) == 34) = false := by rw [h10]; rfl
            have t3 : ((s[i].toNat : Int) == 10) = true := by rw [La.u8_lit s[i] 10 10 rfl]; exact decide_eq_true h10
            rw [he] at hst
            replace hst := Lib.hid hst
            clear h10 he h92 h34
            cases q
            · go_wp2_with (at_builtin; refine wpList_append_lies _ rfl _ _ _ rfl w.heap.size 5 i0 _ 1 1 Tryz.underlying62 hi0 hz0 hz1 hz2 rfl (by decide) _ L _ (by rfl) (ho.alloc _) ⟨wr.heap.size, 0, none⟩ 2 2 [.int .u8 92, .int .u8 110] (by rfl) (by rfl) (World.news_of_block (cs := #[.int .u8 92, .int .u8 110]) (heap_alloc_new _ _)) (by intro u hu; simp at hu; rcases hu with rfl | rfl <;> rfl) (by omega) (by unfold maxLen; omega) (by omega) (by simp; omega) _ rfl ?_; intro gg cap w1 hown1 hgrow hat hlt1)
              have hb1 : Below w.heap.size w w1 := (hb.alloc hsw _).grown hgrow (by simp; omega) hup.out
              refine ⟨⟨i + 1, L + 2, some ⟨gg, 0, none⟩, cap, rfl, by simp, hlt, Lib.hid (by rw [hst.out, List.length_append, ← hL.out]; rfl), ?_, hb1⟩, by simp [natOf]; omega⟩
              rw [hst.out]
              simpa [La.bc] using hown1
            · go_wp2_with (at_builtin; refine wpList_append_lies _ rfl _ _ _ rfl w.heap.size 5 i0 _ 1 1 Tryz.underlying62 hi0 hz0 hz1 hz2 rfl (by decide) _ L _ (by rfl) (ho.alloc _) ⟨wr.heap.size, 0, none⟩ 2 2 [.int .u8 92, .int .u8 110] (by rfl) (by rfl) (World.news_of_block (cs := #[.int .u8 92, .int .u8 110]) (heap_alloc_new _ _)) (by intro u hu; simp at hu; rcases hu with rfl | rfl <;> rfl) (by omega) (by unfold maxLen; omega) (by omega) (by simp; omega) _ rfl ?_; intro gg cap w1 hown1 hgrow hat hlt1)
              have hb1 : Below w.heap.size w w1 := (hb.alloc hsw _).grown hgrow (by simp; omega) hup.out
              refine ⟨⟨i + 1, L + 2, some ⟨gg, 0, none⟩, cap, rfl, by simp, hlt, Lib.hid (by rw [hst.out, List.length_append, ← hL.out]; rfl), ?_, hb1⟩, by simp [natOf]; omega⟩
              rw [hst.out]
              simpa [La.bc] using hown1
          · have he : esc (psOf q) s[i] = [s[i]] := esc_else q _ h92 h10 (fun e h => h34 ⟨e, h⟩)
            have t3 : ((s[i].toNat : Int) == 10) = false := by rw [La.u8_lit s[i] 10 10 rfl]; exact decide_eq_false h10
            rw [he] at hst
            replace hst := Lib.hid hst
            cases q
            · clear h10 he h92 h34
              go_wp2_with (at_builtin; refine wpList_append_lies _ rfl _ _ _ rfl w.heap.size 5 i0 _ 1 1 Tryz.underlying62 hi0 hz0 hz1 hz2 rfl (by decide) _ L _ (by rfl) (ho.alloc _) ⟨wr.heap.size, 0, none⟩ 1 1 [.int .u8 (s[i].toNat : Int)] (by rfl) (by rfl) (World.news_of_block (cs := #[.int .u8 (s[i].toNat : Int)]) (heap_alloc_new _ _)) (by intro u hu; simp at hu; subst hu; rfl) (by omega) (by unfold maxLen; omega) (by omega) (by simp; omega) _ rfl ?_; intro gg cap w1 hown1 hgrow hat hlt1)
              have hb1 : Below w.heap.size w w1 := (hb.alloc hsw _).grown hgrow (by simp; omega) hup.out
              refine ⟨⟨i + 1, L + 1, some ⟨gg, 0, none⟩, cap, rfl, by simp, hlt, Lib.hid (by rw [hst.out, List.length_append, ← hL.out]; rfl), ?_, hb1⟩, by simp [natOf]; omega⟩
              rw [hst.out]
              simpa [La.bc] using hown1
            · have t2 : ((s[i].toNat : Int) == 34) = false := by rw [La.u8_lit s[i] 34 34 rfl]; exact decide_eq_false (fun h => h34 ⟨rfl, h⟩)
              clear h10 he h92 h34
              go_wp2_with (at_builtin; refine wpList_append_lies _ rfl _ _ _ rfl w.heap.size 5 i0 _ 1 1 Tryz.underlying62 hi0 hz0 hz1 hz2 rfl (by decide) _ L _ (by rfl) (ho.alloc _) ⟨wr.heap.size, 0, none⟩ 1 1 [.int .u8 (s[i].toNat : Int)] (by rfl) (by rfl) (World.news_of_block (cs := #[.int .u8 (s[i].toNat : Int)]) (heap_alloc_new _ _)) (by intro u hu; simp at hu; subst hu; rfl) (by omega) (by unfold maxLen; omega) (by omega) (by simp; omega) _ rfl ?_; intro gg cap w1 hown1 hgrow hat hlt1)
              have hb1 : Below w.heap.size w w1 := (hb.alloc hsw _).grown hgrow (by simp; omega) hup.out
              refine ⟨⟨i + 1, L + 1, some ⟨gg, 0, none⟩, cap, rfl, by simp, hlt, Lib.hid (by rw [hst.out, List.length_append, ← hL.out]; rfl), ?_, hb1⟩, by simp [natOf]; omega⟩
              rw [hst.out]
              simpa [La.bc] using hown1
    · obtain rfl : i = s.size := by omega
      have hall : s.data.toList.take s.size = s.data.toList := List.take_of_length_le (by rw [La.len_data]; omega)
      rw [hall] at ho hL
      obtain ⟨E, hE⟩ : ∃ E, E = escL (psOf q) s.data.toList := ⟨_, rfl⟩
      rw [← hE] at hL ho
      obtain rfl : L = E.length := hL.out
      have hcv := La.conv_own ho
      replace hE := Lib.hid hE
      replace ho := Lib.hid ho
      clear hL hall hs
      go_wp2
      go_ret
      exact ⟨by unfold escS; rw [← hE.out]; rfl, hb⟩
end Go.Proofs.YtgjcdhcbniholaaGreat.Rp
