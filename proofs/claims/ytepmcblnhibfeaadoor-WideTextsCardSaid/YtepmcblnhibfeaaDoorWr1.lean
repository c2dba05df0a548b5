/- The document's Print: the walk. -/
import Derived.Test.YtepmcblnhibfeaaDoorWr0
import Derived.Test.YtepmcblnhibfeaaDoorWi6
namespace Go.Proofs.YtepmcblnhibfeaaDoor.Wi
open Go.RowKit Go.Sort Go.Lib Go.Proofs.YtepmcblnhibfeaaDoor.Sl
set_option linter.unusedVariables false

theorem infoU8 : (Tryd.prog.info? 5).map (fun i => (i.zero, i.size, i.bytes)) = some (some (.int .u8 0), 1, 1) := by kernel_rfl

/-- Bytes as cells. -/
def bc (l : List UInt8) : List Value := l.map fun b => .int .u8 (b.toNat : Int)
theorem bc_len (l : List UInt8) : (bc l).length = l.length := by simp [bc]
theorem bc_snoc (l : List UInt8) (b : UInt8) : bc (l ++ [b]) = bc l ++ [.int .u8 (b.toNat : Int)] := by simp [bc]
theorem bc_one (l : List UInt8) : ∀ u ∈ bc l, u.oneCell' = true := by
  intro u hu
  obtain ⟨x, _, rfl⟩ := List.mem_map.1 hu
  rfl
theorem one1 (x : Int) : ∀ u ∈ [Value.int .u8 x], u.oneCell' = true := by
  intro u hu; rw [List.mem_singleton.1 hu]; rfl

/-- What is left of a number whose last digits are written down, the last one first. -/
def Iv (N n : Nat) (bk : List UInt8) : Prop := (n = 0 ∧ bk ≠ [] ∧ decDigits N = bk.reverse) ∨ ((n ≠ 0 ∨ bk = []) ∧ decDigits N = decDigits n ++ bk.reverse)

theorem Iv.start (N : Nat) : Iv N N [] := .inr ⟨.inr rfl, by simp⟩
theorem Iv.done {N n : Nat} {bk : List UInt8} (h : Iv N n bk) (h0 : n = 0) (h1 : bk ≠ []) : decDigits N = bk.reverse := by
  rcases h with ⟨_, _, h⟩ | ⟨h, _⟩
  · exact h
  · rcases h with h | h
    · exact absurd h0 h
    · exact absurd h h1
theorem Iv.step {N n : Nat} {bk : List UInt8} (h : Iv N n bk) (hg : n ≠ 0 ∨ bk = []) : Iv N (n / 10) (bk ++ [UInt8.ofNat (48 + n % 10)]) := by
  rcases h with ⟨h0, h1, _⟩ | ⟨_, h⟩
  · rcases hg with hg | hg
    · exact absurd h0 hg
    · exact absurd hg h1
  · by_cases hn : n < 10
    · refine .inl ⟨by omega, by simp, ?_⟩
      rw [h, decDigits_one hn, Nat.mod_eq_of_lt hn]; simp
    · refine .inr ⟨.inl (by omega), ?_⟩
      rw [h, dec_big hn]; simp
theorem Iv.len {N n : Nat} {bk : List UInt8} (h : Iv N n bk) (hN : N < 10 ^ 39) : bk.length ≤ 39 := by
  have h1 := ndig_le 39 N (by decide) hN
  rw [← decDigits_length] at h1
  rcases h with ⟨_, _, h⟩ | ⟨_, h⟩
  · rw [h, List.length_reverse] at h1; exact h1
  · rw [h, List.length_append, List.length_reverse] at h1; omega

theorem tenth_i {n : Nat} {hi lo : Int} (e : (n : Int) = hi * 18446744073709551616 + lo) (h0 : 0 ≤ hi) (h1 : hi ≤ 18446744073709551615) (l0 : 0 ≤ lo) (l1 : lo ≤ 18446744073709551615) :
    ∃ h l r : Int, ((n / 10 : Nat) : Int) = h * 18446744073709551616 + l ∧ r = ((n % 10 : Nat) : Int) ∧ 0 ≤ h ∧ h ≤ 18446744073709551615 ∧ 0 ≤ l ∧ l ≤ 18446744073709551615 ∧
      ∀ w, Calls Tryd.prog 45 #[.int .u64 hi, .int .u64 lo] w fun e w' => e = .returned (.tuple #[.int .u64 h, .int .u64 l, .int .u64 r]) ∧ Below w.heap.size w w' := by
  obtain ⟨a, rfl⟩ := Int.eq_ofNat_of_zero_le h0
  obtain ⟨b, rfl⟩ := Int.eq_ofNat_of_zero_le l0
  have c := tenth_any a b (by omega) (by omega)
  have e' : a * 18446744073709551616 + b = n := by omega
  rw [e'] at c
  refine ⟨_, _, _, ?_, rfl, ?_, ?_, ?_, ?_, c⟩ <;> omega

theorem ret_str {l l' : List UInt8} (h : l = l') : Ending.returned (.string ⟨l.toArray⟩) = .returned (.string ⟨l'.toArray⟩) := by rw [h]

def lenS : Value → Nat
  | .slice _ n _ => n
  | _ => 0
def numS : Value → Nat
  | .int _ n => n.toNat
  | _ => 0

set_option maxRecDepth 100000 in
set_option maxHeartbeats 4000000 in
theorem rprint_walk (x y hi lo : Int) (N : Nat) (e0 : (N : Int) = hi * 18446744073709551616 + lo) (h0 : 0 ≤ hi) (h1 : hi ≤ 18446744073709551615) (l0 : 0 ≤ lo) (l1 : lo ≤ 18446744073709551615) (hN : N < 10 ^ 39) (w : World)
    (c : ∀ w, Calls Tryd.prog 44 #[.agg #[.int .i64 x, .int .u64 y]] w fun e w' => e = .returned (.tuple #[.int .u64 hi, .int .u64 lo]) ∧ Below w.heap.size w w') :
    Calls Tryd.prog 28 #[.agg #[.int .i64 x, .int .u64 y]] w fun e w' => e = .returned (.string ⟨(sgn x ++ decDigits N).toArray⟩) ∧ Below w.heap.size w w' := by
  obtain ⟨i0, hinf, hz0, hz1, hz2⟩ := info_parts infoU8
  replace hN := Lib.hid hN
  replace e0 := Lib.hid e0
  go_enter Tryd.func28, Tryd.ntmps28
  go_wp2_with fail
  refine (c _).mono ?_
  rintro e w1 ⟨rfl, b1⟩
  obtain ⟨k1, k2, k3, k4⟩ := kept2 b1 (g := w.heap.size) (.int .i64 x) (.int .u64 y) (by go_size) (by go_cell) (by go_cell) (by go_cell) (by go_cell)
  have bw : Below w.heap.size w w1 := joined (w := w) (by go_grown) b1
  have s1 := b1.size
  simp only [World.size_alloc] at s1
  clear b1
  obtain ⟨B1, hB1⟩ : ∃ B, B = w1.heap.size := ⟨_, rfl⟩
  have ho0 : (w1.alloc (.cells #[] 5)).ownsRow B1 5 1 (.slice (some ⟨w1.heap.size, 0, none⟩) 0 0) 0 (bc []) := World.ownsRow_lit w1 #[] 0 (by rw [hB1]; exact Nat.le_refl _) (by decide) rfl
  have hb0 : Below B1 w1 (w1.alloc (.cells #[] 5)) := (Below.refl _ _).alloc (Nat.le_of_eq hB1) _
  have s1' : w.heap.size < B1 := by rw [hB1]; omega
  replace hB1 := Lib.hid hB1
  clear s1
  go_wp2_with fail
  go_loopw [3, 4, 5] (fun h l v wr => ∃ (n : Nat) (hi lo : Int) (A : Option Addr) (cap : Nat) (bk : List UInt8), h = .int .u64 hi ∧ l = .int .u64 lo ∧ v = .slice A bk.length cap ∧ 0 ≤ hi ∧ hi ≤ 18446744073709551615 ∧ 0 ≤ lo ∧ lo ≤ 18446744073709551615 ∧
    Hid ((n : Int) = hi * 18446744073709551616 + lo) ∧ wr.ownsRow B1 5 1 (.slice A bk.length cap) bk.length (bc bk) ∧ Below B1 w1 wr ∧ Hid (Iv N n bk)) (fun h l v _ => numS h * 18446744073709551616 + numS l + (1 - lenS v))
  case atStart => exact ⟨N, hi, lo, _, _, [], rfl, rfl, rfl, h0, h1, l0, l1, e0, ho0, hb0, Iv.start N⟩
  case round =>
    clear ho0 hb0 h0 h1 l0 l1 e0 c
    obtain ⟨n, hi', lo', A, cap, bk, rfl, rfl, rfl, h0, h1, l0, l1, en, ho, hb, hiv⟩ := hrel
    have hlen := hiv.out.len hN.out
    have hszr : B1 ≤ wr.heap.size := by rw [hB1.out]; exact hb.size
    by_cases hgo : n ≠ 0 ∨ bk = []
    · obtain ⟨h2, l2, r, q1, q2, q3, q4, q5, q6, ct⟩ := tenth_i en.out h0 h1 l0 l1
      have hst := hiv.out.step hgo
      have hr : 0 ≤ r ∧ r ≤ 9 := by omega
      have hbr : (((UInt8.ofNat (48 + n % 10)).toNat : Nat) : Int) = 48 + r := by rw [UInt8.toNat_ofNat']; omega
      have hms : (h2.toNat * 18446744073709551616 + l2.toNat + (1 - (bk.length + 1))) < hi'.toNat * 18446744073709551616 + lo'.toNat + (1 - bk.length) := by
        have := en.out
        rcases hgo with hg | hg
        · omega
        · subst hg; simp only [List.length_nil]; omega
      have ht : ((hi' != 0) = true) ∨ ((hi' != 0) = false ∧ (lo' != 0) = true) ∨ ((hi' != 0) = false ∧ (lo' != 0) = false ∧ ((bk.length : Int) == 0) = true) := by
        have := en.out
        by_cases g1 : hi' = 0
        · by_cases g2 : lo' = 0
          · refine .inr (.inr ⟨by simp [g1], by simp [g2], ?_⟩)
            rcases hgo with hg | hg
            · omega
            · simp [hg]
          · exact .inr (.inl ⟨by simp [g1], by simpa using g2⟩)
        · exact .inl (by simpa using g1)
      have w8 : IntKind.u8.wrap (48 + r) = 48 + r := by rw [IntKind.wrap_u8]; omega
      have w64 : IntKind.u64.wrap (48 + r) = 48 + r := by rw [IntKind.wrap_u64]; omega
      have g1 : bk.length + 1 ≤ maxLen := by unfold maxLen; omega
      have g2 : (bk.length + 1) * 1 ≤ 140737488355328 := by omega
      obtain ⟨hr0, hr9⟩ := hr
      replace q1 := Lib.hid q1
      replace hst := Lib.hid hst
      replace hbr := Lib.hid hbr
      replace hms := Lib.hid hms
      replace hgo := Lib.hid hgo
      clear q2 en hiv hlen
      rcases ht with t1 | ⟨t1, t2⟩ | ⟨t1, t2, t3⟩
      all_goals
        go_wp2_with fail
        refine (ct _).mono ?_
        rintro e w2 ⟨rfl, b2⟩
        have hb2 := hb.trans (b2.mono hszr)
        have hown : (w2.alloc (.cells #[.int .u8 (48 + r)] 5)).ownsRow B1 5 1 (.slice A bk.length cap) bk.length (bc bk) := World.ownsRow.alloc (own_later ho b2) _
        have hnew : Rd (w2.alloc (.cells #[.int .u8 (48 + r)] 5)) (w2.heap.size + 1) 1 (some ⟨w2.heap.size, 0, none⟩) [.int .u8 (48 + r)] 1 := Rd.new w2 [.int .u8 (48 + r)] 5 1 1 rfl
        have hb3 : Below B1 w1 (w2.alloc (.cells #[.int .u8 (48 + r)] 5)) := hb2.alloc (by rw [hB1.out]; exact hb2.size) _
        have hsz3 : B1 ≤ (w2.alloc (.cells #[.int .u8 (48 + r)] 5)).heap.size := by rw [hB1.out]; exact hb3.size
        go_wp2_with (at_builtin; refine wpList_append_rd rfl (.tmp 35) (.tmp 39) _ rfl B1 5 Tryd.underlying56 hinf hz0 hz1 hz2 rfl (by decide) rfl hown rfl hnew (one1 _) g1 g2 hsz3 ?_; intro A4 c4 w4 ho4 hb4 hs4)
        have ho5 : w4.ownsRow B1 5 1 (.slice A4 (bk ++ [UInt8.ofNat (48 + n % 10)]).length c4) (bk ++ [UInt8.ofNat (48 + n % 10)]).length (bc (bk ++ [UInt8.ofNat (48 + n % 10)])) := by
          rw [bc_snoc, hbr.out]; simpa using ho4
        exact ⟨⟨n / 10, h2, l2, A4, c4, bk ++ [UInt8.ofNat (48 + n % 10)], rfl, rfl, by simp, q3, q4, q5, q6, q1, ho5, hb3.trans hb4, hst⟩, hms.out⟩
    · obtain ⟨wo, rfl⟩ : ∃ wo : World, wo = wr := ⟨_, rfl⟩
      have hn0 : n = 0 := by
        rcases Nat.eq_zero_or_pos n with h | h
        · exact h
        · exact absurd (Or.inl (by omega)) hgo
      have hbk : bk ≠ [] := fun h => hgo (Or.inr h)
      have hd := hiv.out.done hn0 hbk
      have hbl : 0 < bk.length := List.length_pos_iff.2 hbk
      have t1 : (hi' != 0) = false := by have := en.out; simp; omega
      have t2 : (lo' != 0) = false := by have := en.out; simp; omega
      have t3 : ((bk.length : Int) == 0) = false := beq_eq_false_iff_ne.2 (by omega)
      clear hgo en hiv hn0
      replace hd := Lib.hid hd
      replace hbk := Lib.hid hbk
      obtain ⟨_, _, x1, x2, x3, x4⟩ := own_form ho
      cases x1
      have hrd : Rd wo wo.heap.size 1 A (bc bk) bk.length := Rd.of_own ho fun g hg => (x4 g hg).2.1
      have k1' := (hb.cell (p := ⟨w.heap.size, 0, none⟩) s1').trans k1
      have k2' := (hb.cell (p := ⟨w.heap.size, 1, none⟩) s1').trans k2
      clear ho x4 k1 k2 k3 k4 x2 h0 h1 l0 l1
      obtain ⟨B2, hB2⟩ : ∃ B, B = wo.heap.size := ⟨_, rfl⟩
      rw [← hB2] at hrd hszr
      have ho0 : (wo.alloc (.cells #[] 5)).ownsRow B2 5 1 (.slice (some ⟨wo.heap.size, 0, none⟩) 0 0) 0 (bc []) := World.ownsRow_lit wo #[] 0 (by rw [hB2]; exact Nat.le_refl _) (by decide) rfl
      have hb0 : Below B2 wo (wo.alloc (.cells #[] 5)) := (Below.refl _ _).alloc (Nat.le_of_eq hB2) _
      have hwl : w.heap.size < wo.heap.size := by omega
      have k1a : ∀ o, (wo.alloc o).cell? ⟨w.heap.size, 0, none⟩ = some (.int .i64 x) := fun o => (((Below.refl _ wo).alloc (Nat.le_refl _) o).cell (p := ⟨w.heap.size, 0, none⟩) hwl).trans k1'
      clear k1' k2' hwl
      replace hB2 := Lib.hid hB2
      by_cases hx : x < 0
      · have hown : ((wo.alloc (.cells #[] 5)).alloc (.cells #[.int .u8 45] 5)).ownsRow B2 5 1 (.slice (some ⟨wo.heap.size, 0, none⟩) 0 0) 0 (bc []) := World.ownsRow.alloc ho0 _
        have hnew : Rd ((wo.alloc (.cells #[] 5)).alloc (.cells #[.int .u8 45] 5)) ((wo.alloc (.cells #[] 5)).heap.size + 1) 1 (some ⟨(wo.alloc (.cells #[] 5)).heap.size, 0, none⟩) [.int .u8 45] 1 := Rd.new (wo.alloc (.cells #[] 5)) [.int .u8 45] 5 1 1 rfl
        rw [World.size_alloc] at hnew
        have hsz3 : B2 ≤ ((wo.alloc (.cells #[] 5)).alloc (.cells #[.int .u8 45] 5)).heap.size := by rw [World.size_alloc, World.size_alloc, hB2.out]; omega
        have hbx : Below B2 wo ((wo.alloc (.cells #[] 5)).alloc (.cells #[.int .u8 45] 5)) := hb0.alloc (by rw [World.size_alloc, hB2.out]; omega) _
        have g1 : 0 + 1 ≤ maxLen := by decide
        have g2 : (0 + 1) * 1 ≤ 140737488355328 := by decide
        go_wp2_with (at_builtin; refine wpList_append_rd rfl (.tmp 47) (.tmp 48) _ rfl B2 5 Tryd.underlying56 hinf hz0 hz1 hz2 rfl (by decide) rfl hown rfl hnew (one1 _) g1 g2 hsz3 ?_; intro A6 c6 w6 ho6 hb6 hs6)
        have hlow6 := hbx.trans hb6
        have ho7 : w6.ownsRow B2 5 1 (.slice A6 [(45 : UInt8)].length c6) [(45 : UInt8)].length (bc [45]) := ho6
        clear ho0 hb0 hown hnew hsz3 hbx ho6 hb6 hs6 k1a
        have hrd3 := hrd.below hlow6
        go_loopw [9, 10] (fun o i wr => ∃ (k : Nat) (A3 : Option Addr) (c3 : Nat) (os : List UInt8), k ≤ bk.length ∧ i = .int .i64 ((k : Int) - 1) ∧ o = .slice A3 os.length c3 ∧ wr.ownsRow B2 5 1 (.slice A3 os.length c3) os.length (bc os) ∧ Below B2 w6 wr ∧ Hid (os = [45] ++ (bk.drop k).reverse)) (fun _ i _ => (RowKit.intOf i + 1).toNat)
        case atStart => exact ⟨bk.length, A6, c6, [45], Nat.le_refl _, rfl, rfl, ho7, Below.refl _ _, by rw [List.drop_length]; exact (List.append_nil _).symm⟩
        case round =>
          obtain ⟨k, A3, c3, os, hk, hki, rfl, ho, hb5, hos⟩ := hrel
          have hsz5 : B2 ≤ wr.heap.size := Nat.le_trans (Nat.le_trans (Nat.le_of_eq hB2.out) hlow6.size) hb5.size
          have hol : os.length ≤ 40 := by rw [hos.out]; simp; omega
          rcases Nat.eq_zero_or_pos k with h0 | h0
          · subst h0
            obtain rfl : _ = Value.int .i64 (-1) := hki
            have hfin : os = sgn x ++ decDigits N := by rw [hos.out, hd.out, List.drop_zero]; simp [sgn, hx]
            have hpos : 0 < os.length := by rw [hos.out]; simp <;> omega
            obtain ⟨g, hA⟩ : ∃ g, A3 = some ⟨g, 0, none⟩ := by
              rcases ho.2 with ⟨h1, h2⟩ | ⟨g, cap', cur, h1, h2⟩
              · omega
              · cases h1; exact ⟨g, rfl⟩
            subst hA
            have hcv : (convert 56 9 (.slice (some ⟨g, 0, none⟩) os.length c3)).run Tryd.prog wr = .ok (.string ⟨os.toArray⟩) wr :=
              run_convert_bytes_back (P := Tryd.prog) wr 56 9 5 ⟨g, 0, none⟩ c3 os Tryd.underlying56 Tryd.underlying5 Tryd.underlying9 (fun j hj => by
                rw [Lib.add_plain, Nat.zero_add, ho.cellAt j (by omega)]
                simp [bc, hj])
            have hlow : Below w.heap.size w wr := bw.trans (((hb.trans ((hlow6.mono hszr).trans (hb5.mono hszr)))).mono (Nat.le_of_lt s1'))
            clear hos
            replace hfin := Lib.hid hfin
            go_wp2
            go_ret
            exact ⟨ret_str hfin.out, hlow⟩
          · obtain ⟨m, rfl⟩ : ∃ m, k = m + 1 := ⟨k - 1, by omega⟩
            obtain rfl : _ = Value.int .i64 (m : Int) := hki.trans (by rw [show ((m + 1 : Nat) : Int) - 1 = (m : Int) by omega])
            obtain ⟨bb, off, hA0, hbB, hcc⟩ := (hrd3.below hb5).cells hbl
            subst hA0
            have hm : m < bk.length := by omega
            have hce := hcc m (.int .u8 (bk[m].toNat : Int)) (by simp [bc, hm])
            have hnx : os ++ [bk[m]] = [45] ++ (bk.drop m).reverse := by
              rw [hos.out, List.drop_eq_getElem_cons hm, List.reverse_cons, List.append_assoc]
            clear hcc
            have hown5 : (wr.alloc (.cells #[.int .u8 (bk[m].toNat : Int)] 5)).ownsRow B2 5 1 (.slice A3 os.length c3) os.length (bc os) := World.ownsRow.alloc ho _
            have hnew5 : Rd (wr.alloc (.cells #[.int .u8 (bk[m].toNat : Int)] 5)) (wr.heap.size + 1) 1 (some ⟨wr.heap.size, 0, none⟩) [.int .u8 (bk[m].toNat : Int)] 1 := Rd.new wr [.int .u8 (bk[m].toNat : Int)] 5 1 1 rfl
            have hb6 : Below B2 w6 (wr.alloc (.cells #[.int .u8 (bk[m].toNat : Int)] 5)) := hb5.alloc hsz5 _
            have hsz6 : B2 ≤ (wr.alloc (.cells #[.int .u8 (bk[m].toNat : Int)] 5)).heap.size := by rw [World.size_alloc]; omega
            have g1 : os.length + 1 ≤ maxLen := by unfold maxLen; omega
            have g2 : (os.length + 1) * 1 ≤ 140737488355328 := by omega
            replace hnx := Lib.hid hnx
            clear hos
            go_wp2_with (at_builtin; refine wpList_append_rd rfl (.tmp 57) (.tmp 62) _ rfl B2 5 Tryd.underlying56 hinf hz0 hz1 hz2 rfl (by decide) rfl hown5 rfl hnew5 (one1 _) g1 g2 hsz6 ?_; intro A4 c4 w4 ho4 hb4 hs4)
            exact ⟨⟨m, A4, c4, os ++ [bk[m]], by omega, rfl, by simp, by rw [bc_snoc]; simpa using ho4, hb6.trans hb4, hnx.out⟩, by simp [RowKit.intOf]⟩
      · have ho7 : (wo.alloc (.cells #[] 5)).ownsRow B2 5 1 (.slice (some ⟨wo.heap.size, 0, none⟩) ([] : List UInt8).length 0) ([] : List UInt8).length (bc []) := ho0
        go_wp2_with fail
        clear ho0 k1a
        have hrd3 := hrd.below hb0
        go_loopw [9, 10] (fun o i wr => ∃ (k : Nat) (A3 : Option Addr) (c3 : Nat) (os : List UInt8), k ≤ bk.length ∧ i = .int .i64 ((k : Int) - 1) ∧ o = .slice A3 os.length c3 ∧ wr.ownsRow B2 5 1 (.slice A3 os.length c3) os.length (bc os) ∧ Below B2 (wo.alloc (.cells #[] 5)) wr ∧ Hid (os = [] ++ (bk.drop k).reverse)) (fun _ i _ => (RowKit.intOf i + 1).toNat)
        case atStart => exact ⟨bk.length, _, _, [], Nat.le_refl _, rfl, rfl, ho7, Below.refl _ _, by rw [List.drop_length]; exact (List.append_nil _).symm⟩
        case round =>
          obtain ⟨k, A3, c3, os, hk, hki, rfl, ho, hb5, hos⟩ := hrel
          have hsz5 : B2 ≤ wr.heap.size := Nat.le_trans (Nat.le_trans (Nat.le_of_eq hB2.out) hb0.size) hb5.size
          have hol : os.length ≤ 40 := by rw [hos.out]; simp; omega
          rcases Nat.eq_zero_or_pos k with h0 | h0
          · subst h0
            obtain rfl : _ = Value.int .i64 (-1) := hki
            have hfin : os = sgn x ++ decDigits N := by rw [hos.out, hd.out, List.drop_zero]; simp [sgn, hx]
            have hpos : 0 < os.length := by rw [hos.out]; simp <;> omega
            obtain ⟨g, hA⟩ : ∃ g, A3 = some ⟨g, 0, none⟩ := by
              rcases ho.2 with ⟨h1, h2⟩ | ⟨g, cap', cur, h1, h2⟩
              · omega
              · cases h1; exact ⟨g, rfl⟩
            subst hA
            have hcv : (convert 56 9 (.slice (some ⟨g, 0, none⟩) os.length c3)).run Tryd.prog wr = .ok (.string ⟨os.toArray⟩) wr :=
              run_convert_bytes_back (P := Tryd.prog) wr 56 9 5 ⟨g, 0, none⟩ c3 os Tryd.underlying56 Tryd.underlying5 Tryd.underlying9 (fun j hj => by
                rw [Lib.add_plain, Nat.zero_add, ho.cellAt j (by omega)]
                simp [bc, hj])
            have hlow : Below w.heap.size w wr := bw.trans (((hb.trans ((hb0.mono hszr).trans (hb5.mono hszr)))).mono (Nat.le_of_lt s1'))
            clear hos
            replace hfin := Lib.hid hfin
            go_wp2
            go_ret
            exact ⟨ret_str hfin.out, hlow⟩
          · obtain ⟨m, rfl⟩ : ∃ m, k = m + 1 := ⟨k - 1, by omega⟩
            obtain rfl : _ = Value.int .i64 (m : Int) := hki.trans (by rw [show ((m + 1 : Nat) : Int) - 1 = (m : Int) by omega])
            obtain ⟨bb, off, hA0, hbB, hcc⟩ := (hrd3.below hb5).cells hbl
            subst hA0
            have hm : m < bk.length := by omega
            have hce := hcc m (.int .u8 (bk[m].toNat : Int)) (by simp [bc, hm])
            have hnx : os ++ [bk[m]] = [] ++ (bk.drop m).reverse := by
              rw [hos.out, List.drop_eq_getElem_cons hm, List.reverse_cons, List.append_assoc]
            clear hcc
            have hown5 : (wr.alloc (.cells #[.int .u8 (bk[m].toNat : Int)] 5)).ownsRow B2 5 1 (.slice A3 os.length c3) os.length (bc os) := World.ownsRow.alloc ho _
            have hnew5 : Rd (wr.alloc (.cells #[.int .u8 (bk[m].toNat : Int)] 5)) (wr.heap.size + 1) 1 (some ⟨wr.heap.size, 0, none⟩) [.int .u8 (bk[m].toNat : Int)] 1 := Rd.new wr [.int .u8 (bk[m].toNat : Int)] 5 1 1 rfl
            have hb6 : Below B2 (wo.alloc (.cells #[] 5)) (wr.alloc (.cells #[.int .u8 (bk[m].toNat : Int)] 5)) := hb5.alloc hsz5 _
            have hsz6 : B2 ≤ (wr.alloc (.cells #[.int .u8 (bk[m].toNat : Int)] 5)).heap.size := by rw [World.size_alloc]; omega
            have g1 : os.length + 1 ≤ maxLen := by unfold maxLen; omega
            have g2 : (os.length + 1) * 1 ≤ 140737488355328 := by omega
            replace hnx := Lib.hid hnx
            clear hos
            go_wp2_with (at_builtin; refine wpList_append_rd rfl (.tmp 57) (.tmp 62) _ rfl B2 5 Tryd.underlying56 hinf hz0 hz1 hz2 rfl (by decide) rfl hown5 rfl hnew5 (one1 _) g1 g2 hsz6 ?_; intro A4 c4 w4 ho4 hb4 hs4)
            exact ⟨⟨m, A4, c4, os ++ [bk[m]], by omega, rfl, by simp, by rw [bc_snoc]; simpa using ho4, hb6.trans hb4, hnx.out⟩, by simp [RowKit.intOf]⟩

theorem rprint_any {a : Int} (ha : In a) (w : World) :
    Calls Tryd.prog 28 #[I128 a] w fun e w' => e = .returned (.string ⟨(itoa a).toArray⟩) ∧ Below w.heap.size w w' := by
  obtain ⟨hi, lo, e1, e2, h1, h2, e3⟩ := abs_parts ha
  have c := fun w => rsize_any ha w
  rw [e1, e2] at c
  have h := rprint_walk (hiI a) (loI a) hi lo (hi * 18446744073709551616 + lo) (by omega) (by omega) (by omega) (by omega) (by omega) (by omega) w c
  have e : sgn (hiI a) ++ decDigits (hi * 18446744073709551616 + lo) = itoa a := by
    rw [e3]
    obtain ⟨hn, hp⟩ := hi_neg ha
    unfold itoa absI sgn
    by_cases g : a < 0
    · rw [if_pos (hn g), if_pos g, if_pos g, show (-a).toNat = a.natAbs by omega]; rfl
    · rw [if_neg (hp g), if_neg g, if_neg g]; rfl
  rw [e] at h
  exact h

end Go.Proofs.YtepmcblnhibfeaaDoor.Wi
