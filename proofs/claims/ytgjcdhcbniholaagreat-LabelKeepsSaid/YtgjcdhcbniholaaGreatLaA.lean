/- The reader: text. -/
import Derived.Test.YtgjcdhcbniholaaGreatLa9
import Derived.Deep.RegionHeld3
import Derived.Deep.AppendLies
namespace Go.Proofs.YtgjcdhcbniholaaGreat.La
open Go.RowKit Go.Proofs.YtgjcdhcbniholaaGreat.Sl
set_option linter.unusedVariables false

theorem own_not {w : World} {base n s g : Nat} {e : TypeId} {v : Value} {xs : List Value} (h : w.ownsRow base e s v n xs) (hg : g < base) : v.ownBlock ≠ some g := by
  rcases h.2 with ⟨rfl, _⟩ | ⟨b, cap, cur, rfl, h2, _⟩
  · simp [Value.ownBlock]
  · simp only [Value.ownBlock]
    rintro ⟨⟩; omega
theorem own_up {w : World} {base n s k : Nat} {e : TypeId} {v : Value} {xs : List Value} (h : w.ownsRow base e s v n xs) (hk : v.ownBlock = some k) : base ≤ k := by
  rcases h.2 with ⟨rfl, _⟩ | ⟨b, cap, cur, rfl, h2, _⟩
  · simp [Value.ownBlock] at hk
  · simp only [Value.ownBlock] at hk
    cases hk; exact h2
theorem own_belowW {w w' : World} {base n s : Nat} {e : TypeId} {v : Value} {xs : List Value} (h : w.ownsRow base e s v n xs) (k : Below w.heap.size w w') : w'.ownsRow base e s v n xs := by
  refine ⟨h.1, ?_⟩
  rcases h.2 with h' | ⟨b, cap, cur, h1, h2, h3, h4⟩
  · exact .inl h'
  · exact .inr ⟨b, cap, cur, h1, h2, by rw [k.block b (Array.getElem?_eq_some_iff.1 h3).1]; exact h3, h4⟩
theorem one_cell (x : Int) : ∀ u ∈ [Value.int .u8 x], u.oneCell' = true := one1 x

/-- What text leaves. -/
def TextPost (w : World) (g : Nat) (s : ByteArray) (er bad : Int) (r : TRes) (e : Ending) (w' : World) : Prop :=
  match r with
  | .ok bytes next => e = .returned (.tuple #[.string ⟨bytes.toArray⟩, .bool true]) ∧ Rdr w' g s (next : Int) er bad ∧ next ≤ s.size ∧ w.grownBy w' (some g)
  | .bad x q => e = .returned (.tuple #[.string ⟨#[]⟩, .bool false]) ∧ (∃ p', Rdr w' g s p' x (q : Int)) ∧ w.grownBy w' (some g)

set_option maxRecDepth 100000 in
set_option maxHeartbeats 4000000 in
theorem text_any {w : World} {g : Nat} {s : ByteArray} {p : Nat} {er bad : Int} (h : Rdr w g s p er bad) (hp : p ≤ s.size) (hs : s.size ≤ 140737488355328) :
    Calls Tryz.prog 64 #[.pointer (some ⟨g, 0, none⟩)] w (TextPost w g s er bad (textR s p)) := by
  obtain ⟨i0, hinf, hz0, hz1, hz2⟩ := info_parts infoU8
  obtain ⟨a, b0, b1, b2, b3, b4, b5, b6⟩ := id h
  have hgB := h.lt
  have hpI : (p : Int) ≤ 140737488355328 := by omega
  replace h := Lib.hid h
  go_enter Tryz.func64, Tryz.ntmps64
  go_wp2
  go_loopw [5] (fun v wr => ∃ (f i : Nat) (acc : List UInt8) (A : Option Addr) (c : Nat), v = .slice A acc.length c ∧ i ≤ s.size ∧ acc.length ≤ i ∧ s.size < f + i ∧ Hid (textF s p f i acc = textR s p) ∧ Rdr wr g s (i : Int) er bad ∧
    wr.ownsRow w.heap.size 5 1 (.slice A acc.length c) acc.length (bc acc) ∧ w.grownBy wr (some g)) (fun _ wr => s.size + 1 - posOf wr g)
  case atStart => exact ⟨s.size + 1, p, [], none, 0, rfl, hp, by simp, by omega, rfl, h.out, World.ownsRow_nil w _ _ _, only_refl w _⟩
  case round =>
    clear a b0 b1 b2 b3 b4 b5 b6
    obtain ⟨f, i, acc, A, c, rfl, hi, hal, hf, htx, hr, ho, hg⟩ := hrel
    obtain ⟨f', rfl⟩ : ∃ f', f = f' + 1 := ⟨f - 1, by omega⟩
    have hm := posOf_eq hr
    obtain ⟨a, b0, b1, b2, b3, b4, b5, b6⟩ := id hr
    have hiI : (i : Int) ≤ 140737488355328 := by omega
    have hgs := hg.size
    have htx' := htx.out
    rw [textF] at htx'
    by_cases hlt : i < s.size
    · rw [dif_pos hlt] at htx'
      have hge : ¬ s.size ≤ i := by omega
      by_cases hnl : s[i] = 10
      · rw [if_pos hnl] at htx'
        have t1 : ((s[i].toNat : Int) == 10) = true := by rw [hnl]; rfl
        clear hnl htx hs
        replace htx' := Lib.hid htx'
        replace hr := Lib.hid hr
        replace hg := Lib.hid hg
        replace hm := Lib.hid hm
        go_wp2
        go_quiet (fail)
        go_wp2_with fail
        refine (fail_any (hr.out.drewN _) 5 i).mono ?_
        rintro e' w' ⟨rfl, h2, h3⟩
        go_wp2
        go_ret2
        rw [← htx'.out]
        exact ⟨rfl, ⟨_, h2⟩, only_trans (only_drewN hg.out _) h3⟩
      · rw [if_neg hnl] at htx'
        have t1 : ((s[i].toNat : Int) == 10) = false := by rw [u8_lit s[i] 10 10 rfl]; exact decide_eq_false hnl
        by_cases hq : s[i] = 34
        · rw [if_pos hq] at htx'
          have t2 : ((s[i].toNat : Int) == 34) = true := by rw [hq]; rfl
          clear hnl hq htx
          have ex1 : ∀ n, (convert 62 9 (.slice A acc.length c)).run Tryz.prog ((wr.drewN n).setCell ⟨g, 1, none⟩ (.int .i64 ((i : Int) + 1))) = .ok (.string ⟨acc.toArray⟩) ((wr.drewN n).setCell ⟨g, 1, none⟩ (.int .i64 ((i : Int) + 1))) :=
            fun n => conv_own (own_only ho (only_set (only_drewN (only_refl wr _) n) 1 _) hgB)
          have hown2 : ∀ n, ((wr.drewN n).setCell ⟨g, 1, none⟩ (.int .i64 ((i : Int) + 1))).ownsRow w.heap.size 5 1 (.slice A acc.length c) acc.length (bc acc) :=
            fun n => own_only ho (only_set (only_drewN (only_refl wr _) n) 1 _) hgB
          have hr2 : ∀ n, Rdr ((wr.drewN n).setCell ⟨g, 1, none⟩ (.int .i64 ((i : Int) + 1))) g s ((i : Int) + 1) er bad := fun n => (hr.drewN n).set1 _
          have hg2 : ∀ n, w.grownBy ((wr.drewN n).setCell ⟨g, 1, none⟩ (.int .i64 ((i : Int) + 1))) (some g) := fun n => only_set (only_drewN hg n) 1 _
          replace htx' := Lib.hid htx'
          replace hr := Lib.hid hr
          replace hg := Lib.hid hg
          replace hm := Lib.hid hm
          replace hown2 := Lib.hid hown2
          replace hr2 := Lib.hid hr2
          replace hg2 := Lib.hid hg2
          have hasz : (⟨acc.toArray⟩ : ByteArray).size ≤ 9223372036854775807 := by
            show acc.toArray.size ≤ _
            simp; omega
          go_wp2
          go_quiet (fail)
          go_wp2
          go_quiet (fail)
          go_wp2_with fail
          refine (value_any _ hasz _).mono ?_
          rintro e' w' ⟨rfl, hb⟩
          have hown3 := own_belowW (hown2.out _) hb
          have hr3 := (hr2.out _).stays hb
          have hg3 := only_trans (hg2.out _) (only_of_below hb (some g))
          clear hb
          have ex2 := conv_own hown3
          replace hown3 := Lib.hid hown3
          replace hr3 := Lib.hid hr3
          replace hg3 := Lib.hid hg3
          by_cases hv : valE ⟨acc.toArray⟩ = 0
          · have tv : (valE ⟨acc.toArray⟩ != 0) = false := by rw [hv]; rfl
            replace htx' := htx'.out
            rw [if_pos hv] at htx'
            replace htx' := Lib.hid htx'
            clear hv
            go_wp2
            go_ret2
            rw [← htx'.out]
            exact ⟨rfl, hr3.out, by omega, hg3.out⟩
          · have tv : (valE ⟨acc.toArray⟩ != 0) = true := by simpa using hv
            replace htx' := htx'.out
            rw [if_neg hv] at htx'
            replace htx' := Lib.hid htx'
            clear hv
            go_wp2_with fail
            refine (fail_any hr3.out _ p).mono ?_
            rintro e' w2 ⟨rfl, h2, h3⟩
            go_wp2
            go_ret2
            rw [← htx'.out]
            exact ⟨rfl, ⟨_, h2⟩, only_trans hg3.out h3⟩
        · rw [if_neg hq] at htx'
          have t2 : ((s[i].toNat : Int) == 34) = false := by rw [u8_lit s[i] 34 34 rfl]; exact decide_eq_false hq
          by_cases hb : s[i] = 92
          · rw [if_pos hb] at htx'
            have t2 : ((s[i].toNat : Int) == 34) = false := by rw [u8_lit s[i] 34 34 rfl]; exact decide_eq_false hq
            have t3 : ((s[i].toNat : Int) == 92) = true := by rw [hb]; rfl
            clear hnl hq hb htx
            replace hr := Lib.hid hr
            replace hg := Lib.hid hg
            replace hm := Lib.hid hm
            cases hesc : (if h2 : i + 1 < s.size then escL s[i + 1] else none) with
            | none =>
              rw [hesc] at htx'
              replace htx' := Lib.hid htx'
              have hesc' : ∀ h : i + 1 < s.size, escL s[i + 1] = none := by
                intro h; rw [dif_pos h] at hesc; exact hesc
              clear hesc
              replace hesc' := Lib.hid hesc'
              go_wp2
              go_quiet (fail)
              go_wp2
              go_quiet (fail)
              go_wp2
              go_quiet (fail)
              go_wp2_with fail
              refine (esc_no (hr.out.drewN _) hlt hesc'.out hs).mono ?_
              rintro e' w2 ⟨rfl, h2, h3⟩
              go_wp2
              go_ret2
              rw [← htx'.out]
              exact ⟨rfl, h2, only_trans (only_drewN hg.out _) h3⟩
            | some c2 =>
              rw [hesc] at htx'
              replace htx' := Lib.hid htx'
              obtain ⟨hlt2, hesc'⟩ : ∃ h : i + 1 < s.size, escL s[i + 1] = some c2 := by
                by_cases h : i + 1 < s.size
                · exact ⟨h, by rw [dif_pos h] at hesc; exact hesc⟩
                · rw [dif_neg h] at hesc; cases hesc
              clear hesc
              replace hesc' := Lib.hid hesc'
              go_wp2
              go_quiet (fail)
              go_wp2
              go_quiet (fail)
              go_wp2
              go_quiet (fail)
              go_wp2_with fail
              refine (esc_yes (hr.out.drewN _) c2 hlt2 hesc'.out hs).mono ?_
              rintro e' w2 ⟨rfl, h2, h3⟩
              have ho3 := own_only ho (only_trans (only_drewN (only_refl wr _) _) h3) hgB
              have hg3 := only_trans (only_drewN hg.out _) h3
              have hsz2 : wr.heap.size ≤ w2.heap.size := h3.size
              clear h3
              have hup : ∀ k, (Value.slice A acc.length c).ownBlock = some k → w.heap.size ≤ k := fun k hk => own_up ho3 hk
              go_wp2_with (at_builtin; refine wpList_append_lies _ rfl _ _ _ rfl w.heap.size 5 i0 _ 1 1 Tryz.underlying62 hinf hz0 hz1 hz2 rfl (by decide) _ acc.length (bc acc) (by rfl) (ho3.alloc _) ⟨w2.heap.size, 0, none⟩ 1 1 [.int .u8 (c2.toNat : Int)] (by rfl) (by rfl) (World.news_of_block (cs := #[.int .u8 (c2.toNat : Int)]) (t := 5) (fr := (0, 0)) (heap_alloc_new _ _)) (one1 _) (by omega) (by unfold maxLen; omega) (by omega) (by simp; omega) _ rfl ?_; intro gg cap w1 hown1 hgrow hat hlt1)
              have hb1 : Below w.heap.size w2 w1 := by
                refine ((Below.refl w.heap.size w2).trans ?_).grown hgrow (by simp; omega) hup
                exact Below.alloc (Below.refl _ _) (by omega) _
              have hsz1 : w2.heap.size ≤ w1.heap.size := Nat.le_trans (by simp) hgrow.size
              have hr1 := h2.staysB hb1 hgB hsz1
              have hg1 := only_below hg3 hb1 hsz1
              have hm2 := posOf_eq hr1
              rw [← bc_snoc] at hown1
              exact ⟨⟨f', i + 2, acc ++ [c2], some ⟨gg, 0, none⟩, cap, by rw [List.length_append]; rfl, by omega, by simp; omega, by omega, htx', hr1, by rw [List.length_append]; exact hown1, hg1⟩, by rw [hm2, hm.out]; omega⟩
          · rw [if_neg hb] at htx'
            have t3 : ((s[i].toNat : Int) == 92) = false := by rw [u8_lit s[i] 92 92 rfl]; exact decide_eq_false hb
            clear hnl hq hb htx
            replace htx' := Lib.hid htx'
            replace hr := Lib.hid hr
            replace hg := Lib.hid hg
            replace hm := Lib.hid hm
            go_wp2
            go_quiet (fail)
            go_wp2
            go_quiet (fail)
            go_wp2
            go_quiet (fail)
            go_wp2
            have hne := own_not ho hgB
            have hup : ∀ k, (Value.slice A acc.length c).ownBlock = some k → w.heap.size ≤ k := fun k hk => own_up ho hk
            go_region_held3 (fun w' => w'.cell? ⟨g, 0, none⟩ = some (.string s) ∧ w'.cell? ⟨g, 1, none⟩ = some (.int .i64 i)) (first | go_keep | (go_split_ands; refine ⟨?_, ?_⟩ <;> (rw [hgrow.cell_far _ (by simp; omega) (Ne.symm hne)]; assumption)))
              ((refine step_append_lies _ (by rfl) _ _ _ (by rfl) w.heap.size 5 i0 _ 1 1 Tryz.underlying62 hinf hz0 hz1 hz2 rfl (by decide) _ acc.length (bc acc) (by rfl) ((ho.alloc _).drew) ⟨wr.heap.size, 0, none⟩ 1 1 [.int .u8 (s[i].toNat : Int)] (by rfl) (by rfl) (World.news_of_block (cs := #[.int .u8 (s[i].toNat : Int)]) (t := 5) (fr := (0, 0)) (heap_alloc_new _ _)) (one1 _) (by omega) (by unfold maxLen; omega) (by omega) (by simp; omega) _ rfl ?_; intro gg cap w1 hown1 hgrow hat hlt1))
            have hb1 : Below w.heap.size wr w1 := by
              refine ((Below.refl w.heap.size wr).trans ?_).grown hgrow (by simp; omega) hup
              repeat (first | exact Below.refl _ _ | refine below_drewN ?_ _ | refine Below.alloc ?_ (by simp; omega) _ | refine Below.drew ?_)
            have hsz1 : wr.heap.size ≤ w1.heap.size := Nat.le_trans (by simp) hgrow.size
            have hr1 := hr.out.staysB hb1 hgB hsz1
            have hg1 := only_below hg.out hb1 hsz1
            have hr2 := hr1.set1 ((i : Int) + 1)
            have ho2 := own_only hown1 (only_set (only_refl w1 (some g)) 1 (.int .i64 ((i : Int) + 1))) hgB
            have hg2 := only_set hg1 1 (.int .i64 ((i : Int) + 1))
            have hm2 := posOf_eq hr2
            rw [← bc_snoc] at ho2
            obtain ⟨_, d0, d1, d2, d3, d4, d5, d6⟩ := hr1
            clear hb1 hgrow hat hown1 hg1
            replace hr2 := Lib.hid hr2
            replace hg2 := Lib.hid hg2
            replace hm2 := Lib.hid hm2
            replace ho2 := Lib.hid ho2
            go_wp2
            exact ⟨⟨f', i + 1, acc ++ [s[i]], some ⟨gg, 0, none⟩, cap, by rw [List.length_append]; rfl, by omega, by simp; omega, by omega, htx', by exact hr2.out, by rw [List.length_append]; exact ho2.out, hg2.out⟩, by rw [hm2.out, hm.out]; omega⟩
    · rw [dif_neg hlt] at htx'
      have hge : s.size ≤ i := by omega
      clear htx hs
      replace htx' := Lib.hid htx'
      replace hr := Lib.hid hr
      replace hg := Lib.hid hg
      replace hm := Lib.hid hm
      go_wp2
      go_quiet (fail)
      go_wp2_with fail
      refine (fail_any (hr.out.drewN _) 5 i).mono ?_
      rintro e' w' ⟨rfl, h2, h3⟩
      go_wp2
      go_ret2
      rw [← htx'.out]
      exact ⟨rfl, ⟨_, h2⟩, only_trans (only_drewN hg.out _) h3⟩

end Go.Proofs.YtgjcdhcbniholaaGreat.La
