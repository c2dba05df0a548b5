/- The document's value: the walk. -/
import Derived.Test.YtgjcdhcbniholaaGreatRc0
import Derived.Test.YtgjcdhcbniholaaGreatLaA
import Derived.Test.YtgjcdhcbniholaaGreatLaF
import Derived.Deep.AppendLies
import Derived.Laws.ResultCell
namespace Go.Proofs.YtgjcdhcbniholaaGreat.Rv
open Go.RowKit Go.Proofs.YtgjcdhcbniholaaGreat.La Go.Proofs.YtgjcdhcbniholaaGreat.Rc
set_option linter.unusedVariables false

theorem results_ttc {fn : Func} {t u p : Tmp} {ty : TypeId} (h : fn.results = #[.tmp t, .tmp u, .cell p ty]) (tmps : Array Value) (P : Program) (w : World) :
    (results fn tmps).run P w = ((asAddr (tmps.getD p undef)).run P w).andThen fun a w₁ => ((loadVar ty a).run P w₁).andThen fun v w₂ => .ok (.tuple #[tmps.getD t undef, tmps.getD u undef, v]) w₂ := by
  simp only [results, h]
  simp [Sem.run_bind, Result.andThen]

/-- What 'value' answers. -/
def tresE : TRes → Ending
  | .ok bytes next => .returned (.tuple #[.string ⟨bytes.toArray⟩, .int .i64 (next : Int), .agg #[.int .i64 0, .int .i64 0]])
  | .bad e a => .returned (.tuple #[.string ⟨#[]⟩, .int .i64 0, .agg #[.int .i64 e, .int .i64 (a : Int)]])

set_option maxRecDepth 100000 in
set_option maxHeartbeats 8000000 in
theorem rvalue_any (s : ByteArray) (p : Nat) (hp : p ≤ s.size) (hs : s.size ≤ 140737488351232) (w : World) :
    Calls Tryz.prog 55 #[.string s, .int .i64 (p : Int)] w fun e w' => e = tresE (textR s p) ∧ Below w.heap.size w w' := by
  obtain ⟨i0, hi0, hz0, hz1, hz2⟩ := info_parts La.infoU8
  obtain ⟨w0, hw0⟩ : ∃ w0, w0 = w.alloc (.cells #[.int .i64 0, .int .i64 0] 29) := ⟨_, rfl⟩
  have hcell : w0.heap[w.heap.size]? = some (.cells #[.int .i64 0, .int .i64 0] 29 (0, 0)) := by rw [hw0]; exact heap_alloc_new _ _
  have hsz0 : w0.heap.size = w.heap.size + 1 := by rw [hw0]; simp
  have bel0 : Below w.heap.size w w0 := by rw [hw0]; exact (Below.refl _ _).alloc (Nat.le_refl _) _
  have hpI : (p : Int) ≤ 140737488351232 := by omega
  go_enter Tryz.func55, Tryz.ntmps55
  go_wp2
  rw [← hw0]
  go_loopw [7, 8] (fun a v wr => ∃ (f i L : Nat) (A : Option Addr) (c : Nat) (acc : List UInt8), a = .slice A L c ∧ v = .int .i64 (i : Int) ∧ i ≤ s.size ∧ Hid (L = acc.length) ∧ L ≤ i ∧ s.size < f + i ∧ Hid (textF s p f i acc = textR s p) ∧ wr.ownsRow (w.heap.size + 1) 5 1 (.slice A L c) L (La.bc acc) ∧ Below (w.heap.size + 1) w0 wr) (fun _ v _ => s.size + 1 - natOf v)
  case atStart => exact ⟨s.size + 1, p, 0, _, 0, [], rfl, rfl, hp, rfl, Nat.zero_le _, by omega, rfl, by have := World.ownsRow_made (base := w.heap.size + 1) (e := 5) (size := 1) w0 #[] 0 (by omega) (by decide) rfl; rw [hsz0] at this; exact this, (Below.refl _ _).alloc (by omega) _⟩
  case round =>
    obtain ⟨f, i, L, A, c, acc, rfl, rfl, hil, hL, hLi, hf, hu, ho, hb⟩ := hrel
    obtain ⟨f, rfl⟩ : ∃ f', f = f' + 1 := ⟨f - 1, by omega⟩
    have hsw := hb.size
    have hcl := (hb.block w.heap.size (Nat.lt_succ_self _)).trans hcell
    have hz0' : wr.cell? ⟨w.heap.size, 0, none⟩ = some (.int .i64 0) := by rw [cell_of_row _ _ _ _ _ _ hcl]; rfl
    have hz1' : wr.cell? ⟨w.heap.size, 1, none⟩ = some (.int .i64 0) := by rw [cell_of_row _ _ _ _ _ _ hcl]; rfl
    have hf0' : wr.frozen? ⟨w.heap.size, 0, none⟩ = false := by simp [World.frozen?, hcl]
    have hf1' : wr.frozen? ⟨w.heap.size, 1, none⟩ = false := by simp [World.frozen?, hcl]
    have belr : Below w.heap.size w wr := bel0.trans (hb.mono (Nat.le_succ _))
    have belw : ∀ u v, Below w.heap.size w ((wr.setCell ⟨w.heap.size, 0, none⟩ u).setCell ⟨w.heap.size, 1, none⟩ v) := fun u v => (belr.setCell (p := ⟨w.heap.size, 0, none⟩) (Nat.le_refl _) u).setCell (p := ⟨w.heap.size, 1, none⟩) (Nat.le_refl _) v
    have hu' := hu.out
    rw [textF] at hu'
    have hup : ∀ k, (Value.slice A L c).ownBlock = some k → w.heap.size + 1 ≤ k := fun k hk => La.own_up ho hk
    replace hup := Lib.hid hup
    replace hcl := Lib.hid hcl
    have hiI : (i : Int) ≤ 140737488351232 := by omega
    have hL3 : L + 2 ≤ 140737488355328 := by omega
    clear hu hcell
    by_cases hlt : i < s.size
    · rw [dif_pos hlt] at hu'
      have hltI : (i : Int) < (s.size : Int) := by omega
      by_cases hnl : s[i] = 10
      · rw [if_pos hnl] at hu'
        have t0 : ((s[i].toNat : Int) != 34) = true := by rw [hnl]; rfl
        have t1 : ((s[i].toNat : Int) == 10) = true := by rw [hnl]; rfl
        clear hnl hs
        replace hu' := Lib.hid hu'
        replace ho := Lib.hid ho
        go_wp2
        refine bodyPost_ret (v := .tuple #[.string ⟨#[]⟩, .int .i64 0, .agg #[.int .i64 5, .int .i64 (i : Int)]]) ?_ rfl ⟨by rw [← hu'.out]; rfl, belw _ _⟩
        rw [results_ttc rfl]
        go_simp
        try rfl
      · rw [if_neg hnl] at hu'
        have t1 : ((s[i].toNat : Int) == 10) = false := by rw [u8_lit s[i] 10 10 rfl]; exact decide_eq_false hnl
        by_cases hq : s[i] = 34
        · rw [if_pos hq] at hu'
          have t0 : ((s[i].toNat : Int) != 34) = false := by rw [hq]; rfl
          have t9 : ((i : Int) == (s.size : Int)) = false := by simp; omega
          obtain rfl : L = acc.length := hL.out
          have hcv := La.conv_own ho
          have hasz : (⟨acc.toArray⟩ : ByteArray).size ≤ 9223372036854775807 := by
            show acc.toArray.size ≤ _
            simp; omega
          have ct := rtext_any ⟨acc.toArray⟩ hasz
          clear hasz
          obtain ⟨v, hv⟩ : ∃ v, v = valE ⟨acc.toArray⟩ := ⟨_, rfl⟩
          rw [← hv] at ct hu'
          replace ct := Lib.hid ct
          replace ho := Lib.hid ho
          clear hL hv hnl hq hs
          by_cases hv0 : v = 0
          · rw [if_pos hv0] at hu'
            subst hv0
            replace hu' := Lib.hid hu'
            go_wp2_with fail
            refine (ct.out _).mono ?_
            rintro e w' ⟨rfl, hw⟩
            rw [hw]; clear hw w'
            go_wp2
            refine bodyPost_ret (v := .tuple #[.string ⟨acc.toArray⟩, .int .i64 ((i : Int) + 1), .agg #[.int .i64 0, .int .i64 0]]) ?_ rfl ⟨by rw [← hu'.out]; simp [tresE], belw _ _⟩
            rw [results_ttc rfl]
            go_simp
            try rfl
          · rw [if_neg hv0] at hu'
            have t2 : (v != 0) = true := by simpa using hv0
            clear hv0
            replace hu' := Lib.hid hu'
            go_wp2_with fail
            refine (ct.out _).mono ?_
            rintro e w' ⟨rfl, hw⟩
            rw [hw]; clear hw w'
            go_wp2
            refine bodyPost_ret (v := .tuple #[.string ⟨#[]⟩, .int .i64 0, .agg #[.int .i64 v, .int .i64 (p : Int)]]) ?_ rfl ⟨by rw [← hu'.out]; rfl, belw _ _⟩
            rw [results_ttc rfl]
            go_simp
            try rfl
        · rw [if_neg hq] at hu'
          have t0 : ((s[i].toNat : Int) != 34) = true := by rw [bne, u8_lit s[i] 34 34 rfl]; simpa using hq
          by_cases hbs : s[i] = 92
          · rw [if_pos hbs] at hu'
            have t2 : ((s[i].toNat : Int) == 92) = true := by rw [hbs]; rfl
            obtain ⟨q, hq1, hq2⟩ : ∃ q : Nat, q = i + 1 ∧ ((i : Int) + 1 = (q : Int)) := ⟨i + 1, rfl, by omega⟩
            have hqI : (q : Int) ≤ 140737488351233 := by omega
            by_cases hlt2 : i + 1 < s.size
            · rw [dif_pos hlt2] at hu'
              have hqs : q < s.size := by omega
              have e0 : s[i + 1] = s[q] := by simp only [hq1]
              rw [e0] at hu'
              have g1 : ((q : Int) == (s.size : Int)) = false := by simp; omega
              have g2 : (q : Int) < (s.size : Int) := by omega
              by_cases h92 : s[q] = 92
              · have he : La.escL s[q] = some 92 := by rw [h92]; rfl
                rw [he] at hu'
                have t3 : ((s[q].toNat : Int) != 92) = false := by rw [h92]; rfl
                have t4 : ((s[q].toNat : Int) == 110) = false := by rw [h92]; rfl
                have t5 : ((s[q].toNat : Int)) = 92 := by rw [h92]; rfl
                clear h92 hbs hnl e0 hq he hs
                replace hu' := Lib.hid hu'
                replace hq1 := Lib.hid hq1
                replace t5 := Lib.hid t5
                go_wp2_with (at_builtin; refine wpList_append_lies _ rfl _ _ _ rfl (w.heap.size + 1) 5 i0 _ 1 1 Tryz.underlying62 hi0 hz0 hz1 hz2 rfl (by decide) _ L _ (by rfl) (ho.alloc _) ⟨wr.heap.size, 0, none⟩ 1 1 [.int .u8 (s[q].toNat : Int)] (by rfl) (by rfl) (World.news_of_block (cs := #[.int .u8 (s[q].toNat : Int)]) (heap_alloc_new _ _)) (by intro u hu; simp at hu; subst hu; rfl) (by omega) (by unfold maxLen; omega) (by omega) (by simp; omega) _ rfl ?_; intro gg cap w1 hown1 hgrow hat hlt1)
                have hb1 : Below (w.heap.size + 1) w0 w1 := (hb.alloc (by omega) _).grown hgrow (by simp; omega) hup.out
                exact ⟨⟨f, i + 2, L + 1, some ⟨gg, 0, none⟩, cap, acc ++ [92], rfl, by have := hq1.out; simp; try omega, by omega, Lib.hid (by rw [List.length_append, ← hL.out]; rfl), by omega, by omega, hu', by have := hown1; rw [t5.out] at this; simpa [La.bc] using this, hb1⟩, by have := hq1.out; simp [natOf]; omega⟩
              · have t3 : ((s[q].toNat : Int) != 92) = true := by rw [bne, u8_lit s[q] 92 92 rfl]; simpa using h92
                by_cases h34 : s[q] = 34
                · have he : La.escL s[q] = some 34 := by rw [h34]; rfl
                  rw [he] at hu'
                  have t4 : ((s[q].toNat : Int) != 34) = false := by rw [h34]; rfl
                  have t6 : ((s[q].toNat : Int) == 110) = false := by rw [h34]; rfl
                  have t5 : ((s[q].toNat : Int)) = 34 := by rw [h34]; rfl
                  clear h34 h92 hbs hnl e0 hq he hs
                  replace hu' := Lib.hid hu'
                  replace hq1 := Lib.hid hq1
                  replace t5 := Lib.hid t5
                  go_wp2_with (at_builtin; refine wpList_append_lies _ rfl _ _ _ rfl (w.heap.size + 1) 5 i0 _ 1 1 Tryz.underlying62 hi0 hz0 hz1 hz2 rfl (by decide) _ L _ (by rfl) (ho.alloc _) ⟨wr.heap.size, 0, none⟩ 1 1 [.int .u8 (s[q].toNat : Int)] (by rfl) (by rfl) (World.news_of_block (cs := #[.int .u8 (s[q].toNat : Int)]) (heap_alloc_new _ _)) (by intro u hu; simp at hu; subst hu; rfl) (by omega) (by unfold maxLen; omega) (by omega) (by simp; omega) _ rfl ?_; intro gg cap w1 hown1 hgrow hat hlt1)
                  have hb1 : Below (w.heap.size + 1) w0 w1 := (hb.alloc (by omega) _).grown hgrow (by simp; omega) hup.out
                  exact ⟨⟨f, i + 2, L + 1, some ⟨gg, 0, none⟩, cap, acc ++ [34], rfl, by have := hq1.out; simp; try omega, by omega, Lib.hid (by rw [List.length_append, ← hL.out]; rfl), by omega, by omega, hu', by have := hown1; rw [t5.out] at this; simpa [La.bc] using this, hb1⟩, by have := hq1.out; simp [natOf]; omega⟩
                · have t4 : ((s[q].toNat : Int) != 34) = true := by rw [bne, u8_lit s[q] 34 34 rfl]; simpa using h34
                  by_cases h110 : s[q] = 110
                  · have he : La.escL s[q] = some 10 := by rw [h110]; rfl
                    rw [he] at hu'
                    have t6 : ((s[q].toNat : Int) != 110) = false := by rw [h110]; rfl
                    have t7 : ((s[q].toNat : Int) == 110) = true := by rw [h110]; rfl
                    clear h110 h34 h92 hbs hnl e0 hq he hs
                    replace hu' := Lib.hid hu'
                    replace hq1 := Lib.hid hq1
                    go_wp2_with (at_builtin; refine wpList_append_lies _ rfl _ _ _ rfl (w.heap.size + 1) 5 i0 _ 1 1 Tryz.underlying62 hi0 hz0 hz1 hz2 rfl (by decide) _ L _ (by rfl) (ho.alloc _) ⟨wr.heap.size, 0, none⟩ 1 1 [.int .u8 10] (by rfl) (by rfl) (World.news_of_block (cs := #[.int .u8 10]) (heap_alloc_new _ _)) (by intro u hu; simp at hu; subst hu; rfl) (by omega) (by unfold maxLen; omega) (by omega) (by simp; omega) _ rfl ?_; intro gg cap w1 hown1 hgrow hat hlt1)
                    have hb1 : Below (w.heap.size + 1) w0 w1 := (hb.alloc (by omega) _).grown hgrow (by simp; omega) hup.out
                    exact ⟨⟨f, i + 2, L + 1, some ⟨gg, 0, none⟩, cap, acc ++ [10], rfl, by have := hq1.out; simp; try omega, by omega, Lib.hid (by rw [List.length_append, ← hL.out]; rfl), by omega, by omega, hu', by simpa [La.bc] using hown1, hb1⟩, by have := hq1.out; simp [natOf]; omega⟩
                  · have he : La.escL s[q] = none := by unfold La.escL; rw [if_neg (by rintro (h | h) <;> contradiction), if_neg h110]
                    rw [he] at hu'
                    have t6 : ((s[q].toNat : Int) != 110) = true := by rw [bne, u8_lit s[q] 110 110 rfl]; simpa using h110
                    clear h110 h34 h92 hbs hnl e0 hq he hs
                    replace hu' := Lib.hid hu'
                    replace hq1 := Lib.hid hq1
                    replace ho := Lib.hid ho
                    go_wp2
                    refine bodyPost_ret (v := .tuple #[.string ⟨#[]⟩, .int .i64 0, .agg #[.int .i64 5, .int .i64 (i : Int)]]) ?_ rfl ⟨by rw [← hu'.out]; rfl, belw _ _⟩
                    rw [results_ttc rfl]
                    go_simp
                    try rfl
            · rw [dif_neg hlt2] at hu'
              have g1 : ((q : Int) == (s.size : Int)) = true := by simp; omega
              clear hbs hnl hq hs
              replace hu' := Lib.hid hu'
              replace hq1 := Lib.hid hq1
              replace ho := Lib.hid ho
              go_wp2
              refine bodyPost_ret (v := .tuple #[.string ⟨#[]⟩, .int .i64 0, .agg #[.int .i64 5, .int .i64 (i : Int)]]) ?_ rfl ⟨by rw [← hu'.out]; rfl, belw _ _⟩
              rw [results_ttc rfl]
              go_simp
              try rfl
          · rw [if_neg hbs] at hu'
            have t2 : ((s[i].toNat : Int) == 92) = false := by rw [u8_lit s[i] 92 92 rfl]; exact decide_eq_false hbs
            clear hbs hnl hq hs
            replace hu' := Lib.hid hu'
            go_wp2_with (at_builtin; refine wpList_append_lies _ rfl _ _ _ rfl (w.heap.size + 1) 5 i0 _ 1 1 Tryz.underlying62 hi0 hz0 hz1 hz2 rfl (by decide) _ L _ (by rfl) (ho.alloc _) ⟨wr.heap.size, 0, none⟩ 1 1 [.int .u8 (s[i].toNat : Int)] (by rfl) (by rfl) (World.news_of_block (cs := #[.int .u8 (s[i].toNat : Int)]) (heap_alloc_new _ _)) (by intro u hu; simp at hu; subst hu; rfl) (by omega) (by unfold maxLen; omega) (by omega) (by simp; omega) _ rfl ?_; intro gg cap w1 hown1 hgrow hat hlt1)
            have hb1 : Below (w.heap.size + 1) w0 w1 := (hb.alloc (by omega) _).grown hgrow (by simp; omega) hup.out
            exact ⟨⟨f, i + 1, L + 1, some ⟨gg, 0, none⟩, cap, acc ++ [s[i]], rfl, by simp; try omega, by omega, Lib.hid (by rw [List.length_append, ← hL.out]; rfl), by omega, by omega, hu', by simpa [La.bc] using hown1, hb1⟩, by simp [natOf]; omega⟩
    · rw [dif_neg hlt] at hu'
      obtain rfl : i = s.size := by omega
      have hge : ¬ (s.size : Int) < (s.size : Int) := by omega
      clear hs
      replace hu' := Lib.hid hu'
      replace ho := Lib.hid ho
      go_wp2
      refine bodyPost_ret (v := .tuple #[.string ⟨#[]⟩, .int .i64 0, .agg #[.int .i64 5, .int .i64 (s.size : Int)]]) ?_ rfl ⟨by rw [← hu'.out]; rfl, belw _ _⟩
      rw [results_ttc rfl]
      go_simp
      try rfl
end Go.Proofs.YtgjcdhcbniholaaGreat.Rv
