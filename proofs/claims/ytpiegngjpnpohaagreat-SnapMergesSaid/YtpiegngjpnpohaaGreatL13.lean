/- Lemmas for the laws of this seat, laid together of St6, Mg3, Mg4. -/
import Derived.Test.YtpiegngjpnpohaaGreatL11
import Derived.Test.YtpiegngjpnpohaaGreatL12

namespace Go.Proofs.YtpiegngjpnpohaaGreat.St
open Go.RowKit Go.Sort Go.Shelf Go.Proofs Go.Lib
set_option linter.unusedVariables false
theorem parts3 (l : List Cnt) (a n : Nat) : l = l.take a ++ chunk l a n ++ l.drop (a + n) := by
  have := chunk_split l a n
  rwa [← List.append_assoc] at this
theorem parts4 (l : List Cnt) (a n m : Nat) : l = l.take a ++ (chunk l a n ++ chunk l (a + n) m) ++ l.drop (a + (n + m)) := by
  rw [← chunk_two]; exact parts3 l a (n + m)
structure Ini (t : Nat) (l0 L : List Cnt) : Prop where
  perm : L.Perm l0
  done : ∀ u, u < t → Srt (chunk L (u * 20) 20)
theorem Ini.step {t a : Nat} {l0 L W : List Cnt} (h : Ini t l0 L) (ha : a = t * 20) (hl : a + 20 ≤ L.length) (hW : W.Perm (chunk L a 20)) (hs : Srt W) : Ini (t + 1) l0 (L.take a ++ W ++ L.drop (a + 20)) := by
  have hWl : W.length = 20 := by rw [hW.length_eq, chunk_len hl]
  rw [List.append_assoc]
  refine ⟨(splice_perm hW).trans h.perm, fun u hu => ?_⟩
  by_cases hut : u < t
  · rw [chunk_before hWl hl (by omega)]; exact h.done u hut
  · obtain rfl : u = t := by omega
    rw [← ha, ← hWl, hWl, chunk_at hWl (by omega)]; exact hs
theorem Ini.last {t a k : Nat} {l0 L W : List Cnt} (h : Ini t l0 L) (ha : a = t * 20) (hk : L.length = a + k) (hk2 : k ≤ 20) (hW : W.Perm (chunk L a k)) (hs : Srt W) : (L.take a ++ W ++ L.drop (a + k)).Perm l0 ∧ BS 20 (L.take a ++ W ++ L.drop (a + k)) := by
  have hWl : W.length = k := by rw [hW.length_eq, chunk_len (by omega)]
  rw [List.append_assoc]
  have hlen := splice_len hW
  refine ⟨(splice_perm hW).trans h.perm, fun u => ?_⟩
  rcases Nat.lt_trichotomy u t with hut | hut | hut
  · rw [chunk_before hWl (by omega) (by omega)]; exact h.done u hut
  · subst hut
    rw [← ha, chunk_rest (by rw [hlen]; omega), hlen, show L.length - a = k by omega, chunk_at hWl (by omega)]; exact hs
  · rw [chunk_none (by rw [hlen]; omega)]; exact Srt.nil
structure Mid (bs t : Nat) (l0 L : List Cnt) : Prop where
  perm : L.Perm l0
  done : ∀ u, u < t → Srt (chunk L (u * (2 * bs)) (2 * bs))
  todo : ∀ u, 2 * t ≤ u → Srt (chunk L (u * bs) bs)
theorem Mid.start {bs : Nat} {l0 L : List Cnt} (hp : L.Perm l0) (h : BS bs L) : Mid bs 0 l0 L := ⟨hp, fun u hu => absurd hu (by omega), fun u _ => h u⟩
theorem Mid.parts {bs t a : Nat} {l0 L : List Cnt} (h : Mid bs t l0 L) (ha : a = t * (2 * bs)) : Srt (chunk L a bs) ∧ Srt (chunk L (a + bs) bs) := by
  have h1 := h.todo (2 * t) (by omega)
  have h2 := h.todo (2 * t + 1) (by omega)
  have e1 : 2 * t * bs = a := by rw [ha, Nat.mul_comm 2 t, Nat.mul_assoc]
  rw [Nat.add_mul, e1, Nat.one_mul] at h2
  rw [e1] at h1
  exact ⟨h1, h2⟩
theorem before {bs t u : Nat} (h : u < t) : u * (2 * bs) + 2 * bs ≤ t * (2 * bs) := by
  have := Nat.mul_le_mul_right (2 * bs) (show u + 1 ≤ t by omega)
  rwa [Nat.add_mul, Nat.one_mul] at this
theorem Mid.step {bs t a : Nat} {l0 L W : List Cnt} (h : Mid bs t l0 L) (ha : a = t * (2 * bs)) (hl : a + (bs + bs) ≤ L.length) (hW : W.Perm (chunk L a bs ++ chunk L (a + bs) bs)) (hs : Srt W) : Mid bs (t + 1) l0 (L.take a ++ W ++ L.drop (a + (bs + bs))) := by
  rw [← chunk_two] at hW
  have hWl : W.length = bs + bs := by rw [hW.length_eq, chunk_len hl]
  rw [List.append_assoc]
  refine ⟨(splice_perm hW).trans h.perm, fun u hu => ?_, fun u hu => ?_⟩
  · by_cases hut : u < t
    · rw [chunk_before hWl hl (by have := before (bs := bs) hut; omega)]; exact h.done u hut
    · obtain rfl : u = t := by omega
      have := chunk_at (l := L) (a := a) hWl (by omega)
      rw [← ha, Nat.two_mul, this]; exact hs
  · rw [chunk_behind hWl hl (by
      have := Nat.mul_le_mul_right bs hu
      rw [Nat.mul_add, Nat.add_mul, Nat.mul_one, Nat.mul_comm 2 t, Nat.mul_assoc, ← ha] at this; omega)]
    exact h.todo u (by omega)
theorem Mid.over {bs t a : Nat} {l0 L : List Cnt} (h : Mid bs t l0 L) (ha : a = t * (2 * bs)) (hl : L.length ≤ a + bs) : BS (2 * bs) L := by
  intro u
  rcases Nat.lt_trichotomy u t with hut | hut | hut
  · exact h.done u hut
  · subst hut
    rw [← ha, chunk_rest (by omega), ← chunk_rest hl]
    exact (h.parts ha).1
  · have := before (bs := bs) hut
    rw [chunk_none (by omega)]; exact Srt.nil
theorem Mid.last {bs t a k : Nat} {l0 L W : List Cnt} (h : Mid bs t l0 L) (ha : a = t * (2 * bs)) (hk : L.length = a + (bs + k)) (hk2 : k ≤ bs) (hW : W.Perm (chunk L a bs ++ chunk L (a + bs) k)) (hs : Srt W) :
    (L.take a ++ W ++ L.drop (a + (bs + k))).Perm l0 ∧ BS (2 * bs) (L.take a ++ W ++ L.drop (a + (bs + k))) := by
  rw [← chunk_two] at hW
  have hWl : W.length = bs + k := by rw [hW.length_eq, chunk_len (by omega)]
  rw [List.append_assoc]
  have hlen := splice_len hW
  refine ⟨(splice_perm hW).trans h.perm, fun u => ?_⟩
  rcases Nat.lt_trichotomy u t with hut | hut | hut
  · rw [chunk_before hWl (by omega) (by have := before (bs := bs) hut; omega)]; exact h.done u hut
  · subst hut
    rw [← ha, chunk_rest (by rw [hlen]; omega), hlen, show L.length - a = bs + k by omega, chunk_at hWl (by omega)]; exact hs
  · have := before (bs := bs) hut
    rw [chunk_none (by rw [hlen]; omega)]; exact Srt.nil
def SortPost (w0 : World) (blk off : Nat) (l : List Cnt) (e : Ending) (w' : World) : Prop := e = .returned (.tuple #[]) ∧ ∃ L : List Cnt, L.Perm l ∧ Srt L ∧ SWK encC 2 w0 blk off L.toArray w'
set_option maxRecDepth 100000 in
set_option maxHeartbeats 4000000 in
theorem stable_any (w0 w : World) (blk off cap g : Nat) (d0 : Array Cnt) (l : List Cnt) (C : RowC w0 blk off d0 g) (hN : d0.size = l.length) (hs : d0.size < 1152921504606846976)
    (S : SWK encC 2 w0 blk off l.toArray w) :
    Calls Tryz.prog 195 #[.slice (some ⟨blk, off, none⟩) d0.size cap, .int .i64 d0.size, .func (.func g) #[] #[]] w (SortPost w0 blk off l) := by
  have ins := fun (w : World) (a b : Nat) (X Z Y : List Cnt) => insertion_any w0 w blk off cap a b g d0 X Z Y C
  have mrg := fun (w : World) (a m b : Nat) (X U V Y : List Cnt) => merge_any w0 blk off cap g d0 C (b - a + 1) w a m b X U V Y (by omega)
  obtain ⟨N, hNs⟩ : ∃ N, N = d0.size := ⟨_, rfl⟩
  rw [← hNs] at hN hs ins mrg ⊢
  have hNI : (N : Int) < 1152921504606846976 := by omega
  replace hN := Lib.hid hN
  replace ins := Lib.hid ins
  replace mrg := Lib.hid mrg
  have S0 := Lib.hid S
  clear S C hNs
  go_enter Tryz.func195, Tryz.ntmps195
  go_wp2
  go_loopg [7, 8] (N) (fun kx s7 s8 wr => ∃ (t a : Nat), s7 = .int .i64 (a : Int) ∧ s8 = .int .i64 ((a : Int) + 20) ∧ a ≤ N ∧ N - a ≤ kx ∧ Hid (a = t * 20 ∧ ∃ L, L.length = N ∧ Ini t l L ∧ SWK encC 2 w0 blk off L.toArray wr))
  case atStart => exact ⟨0, 0, rfl, by simp, Nat.zero_le _, by omega, by simp, l, hN.out.symm, ⟨List.Perm.refl _, fun u hu => absurd hu (by omega)⟩, S0.out⟩
  case round =>
    clear S0
    obtain ⟨t, a, rfl, rfl, haN, hkx, hall⟩ := hrel
    obtain ⟨hat, L, hL, hI, S1⟩ := hall.out
    clear hall
    by_cases hb : a + 20 ≤ N
    · have hbI : (a : Int) + 20 ≤ (N : Int) := by omega
      have c := ins.out wr a (a + 20) (L.take a) (chunk L a 20) (L.drop (a + 20)) (by rw [List.length_take]; omega) (by rw [List.length_take, chunk_len (by omega)]; omega) (by rw [List.length_take, chunk_len (by omega), List.length_drop]; omega) (by rw [← parts3]; exact S1)
      have e1 : ((a + 20 : Nat) : Int) = (a : Int) + 20 := by omega
      rw [e1] at c
      have nx : ∀ W, W.Perm (chunk L a 20) → Srt W → ∀ w1, SWK encC 2 w0 blk off (L.take a ++ W ++ L.drop (a + 20)).toArray w1 → Hid (a + 20 = (t + 1) * 20 ∧ ∃ L, L.length = N ∧ Ini (t + 1) l L ∧ SWK encC 2 w0 blk off L.toArray w1) := fun W h1 h2 w1 S2 =>
        ⟨by omega, _, by rw [List.append_assoc, splice_len h1, hL], hI.step hat (by omega) h1 h2, S2⟩
      replace nx := Lib.hid nx
      replace hat := Lib.hid hat
      replace hL := Lib.hid hL
      replace hI := Lib.hid hI
      replace c := Lib.hid c
      clear S1 ins mrg
      go_wp2_with fail
      refine c.out.mono ?_
      rintro e w1 ⟨rfl, W, hW, hWs, S2⟩
      have S3 := nx.out W hW hWs w1 S2
      clear S2 c nx hW hWs
      go_wp2
      go_roundg (N - (a + 20))
      case measure => omega
      case rel => exact ⟨t + 1, a + 20, rfl, by simp, hb, Nat.le_refl _, S3⟩
    · have hbI : ¬ (a : Int) + 20 ≤ (N : Int) := by omega
      obtain ⟨k, hk⟩ : ∃ k, k = N - a := ⟨_, rfl⟩
      have c := ins.out wr a N (L.take a) (chunk L a k) (L.drop (a + k)) (by rw [List.length_take]; omega) (by rw [List.length_take, chunk_len (by omega)]; omega) (by rw [List.length_take, chunk_len (by omega), List.length_drop]; omega) (by rw [← parts3]; exact S1)
      have nx : ∀ W, W.Perm (chunk L a k) → Srt W → ∀ w1, SWK encC 2 w0 blk off (L.take a ++ W ++ L.drop (a + k)).toArray w1 → Hid (∃ L, L.length = N ∧ L.Perm l ∧ BS 20 L ∧ SWK encC 2 w0 blk off L.toArray w1) := fun W h1 h2 w1 S2 => by
        obtain ⟨i1, i2⟩ := hI.last hat (by omega) (by omega) h1 h2
        exact ⟨_, by rw [List.append_assoc, splice_len h1, hL], i1, i2, S2⟩
      replace nx := Lib.hid nx
      replace c := Lib.hid c
      clear S1 ins hat hL hI hkx hk
      go_wp2_with fail
      refine c.out.mono ?_
      rintro e w1 ⟨rfl, W, hW, hWs, S2⟩
      have S3 := nx.out W hW hWs w1 S2
      clear S2 c nx hW hWs
      go_wp2_with fail
      go_loopg [6, 7, 8, 9] (N) (fun kx s6 s7 s8 s9 wr => ∃ (bs : Nat), s6 = .int .i64 (bs : Int) ∧ 0 < bs ∧ bs < 2305843009213693952 ∧ N - bs ≤ kx ∧ Hid (∃ L, L.length = N ∧ L.Perm l ∧ BS bs L ∧ SWK encC 2 w0 blk off L.toArray wr))
      case atStart => exact ⟨20, rfl, by omega, by omega, by omega, S3⟩
      case round =>
        clear S3 W hb hbI k w1
        obtain ⟨bs, rfl, hbs, hbz, hkx, hall⟩ := hrel
        by_cases hlt : bs < N
        · have hltI : (bs : Int) < (N : Int) := by omega
          have hst : Hid (0 = 0 * (2 * bs) ∧ ∃ L, L.length = N ∧ Mid bs 0 l L ∧ SWK encC 2 w0 blk off L.toArray wr) := by
            obtain ⟨L, h1, h2, h3, h4⟩ := hall.out
            exact ⟨by simp, L, h1, Mid.start h2 h3, h4⟩
          clear hall
          go_wp2_with fail
          go_loopg [7, 8] (N) (fun kx s7 s8 wr => ∃ (t a : Nat), s7 = .int .i64 (a : Int) ∧ s8 = .int .i64 ((a : Int) + 2 * (bs : Int)) ∧ a ≤ N ∧ N - a ≤ kx ∧ Hid (a = t * (2 * bs) ∧ ∃ L, L.length = N ∧ Mid bs t l L ∧ SWK encC 2 w0 blk off L.toArray wr))
          case atStart => exact ⟨0, 0, rfl, by simp, Nat.zero_le _, by omega, hst⟩
          case round =>
            clear hst
            obtain ⟨t, a, rfl, rfl, haN, hkx2, hall⟩ := hrel
            obtain ⟨hat, L, hL, hI, S1⟩ := hall.out
            clear hall
            obtain ⟨p1, p2⟩ := hI.parts hat
            by_cases hb : a + 2 * bs ≤ N
            · have hbI : (a : Int) + 2 * (bs : Int) ≤ (N : Int) := by omega
              have c := mrg.out wr a (a + bs) (a + 2 * bs) (L.take a) (chunk L a bs) (chunk L (a + bs) bs) (L.drop (a + (bs + bs)))
                (by rw [List.length_take]; omega) (by rw [List.length_take, chunk_len (by omega)]; omega) (by rw [List.length_take, chunk_len (by omega), chunk_len (by omega)]; omega) (by rw [chunk_len (by omega)]; omega) (by rw [chunk_len (by omega)]; omega)
                (by rw [List.length_take, chunk_len (by omega), chunk_len (by omega), List.length_drop]; omega) p1 p2 (by rw [← parts4]; exact S1)
              have e1 : ((a + bs : Nat) : Int) = (a : Int) + bs := by omega
              have e2 : ((a + 2 * bs : Nat) : Int) = (a : Int) + 2 * bs := by omega
              rw [e1, e2] at c
              have nx : ∀ W, W.Perm (chunk L a bs ++ chunk L (a + bs) bs) → Srt W → ∀ w1, SWK encC 2 w0 blk off (L.take a ++ W ++ L.drop (a + (bs + bs))).toArray w1 → Hid (a + 2 * bs = (t + 1) * (2 * bs) ∧ ∃ L, L.length = N ∧ Mid bs (t + 1) l L ∧ SWK encC 2 w0 blk off L.toArray w1) := fun W h1 h2 w1 S2 =>
                ⟨by rw [Nat.add_mul, Nat.one_mul, hat], _, by rw [List.append_assoc, splice_len (by rw [chunk_two]; exact h1), hL], hI.step hat (by omega) h1 h2, S2⟩
              replace nx := Lib.hid nx
              replace hat := Lib.hid hat
              replace hL := Lib.hid hL
              replace hI := Lib.hid hI
              replace c := Lib.hid c
              clear S1 mrg p1 p2
              go_wp2_with fail
              refine c.out.mono ?_
              rintro e w1 ⟨rfl, W, hW, hWs, S2⟩
              have S3 := nx.out W hW hWs w1 S2
              clear S2 c nx hW hWs
              go_wp2
              go_roundg (N - (a + 2 * bs))
              case measure => omega
              case rel => exact ⟨t + 1, a + 2 * bs, by rw [e2], by rw [e2], hb, Nat.le_refl _, S3⟩
            · have hbI : ¬ (a : Int) + 2 * (bs : Int) ≤ (N : Int) := by omega
              by_cases hm : a + bs < N
              · have hmI : (a : Int) + (bs : Int) < (N : Int) := by omega
                obtain ⟨k, hk⟩ : ∃ k, k = N - (a + bs) := ⟨_, rfl⟩
                have p3 : Srt (chunk L (a + bs) k) := by
                  rw [chunk_rest (by omega)] at p2
                  rwa [hk, ← hL]
                have c := mrg.out wr a (a + bs) N (L.take a) (chunk L a bs) (chunk L (a + bs) k) (L.drop (a + (bs + k)))
                  (by rw [List.length_take]; omega) (by rw [List.length_take, chunk_len (by omega)]; omega) (by rw [List.length_take, chunk_len (by omega), chunk_len (by omega)]; omega) (by rw [chunk_len (by omega)]; omega) (by rw [chunk_len (by omega)]; omega)
                  (by rw [List.length_take, chunk_len (by omega), chunk_len (by omega), List.length_drop]; omega) p1 p3 (by rw [← parts4]; exact S1)
                have e1 : ((a + bs : Nat) : Int) = (a : Int) + bs := by omega
                rw [e1] at c
                have nx : ∀ W, W.Perm (chunk L a bs ++ chunk L (a + bs) k) → Srt W → ∀ w1, SWK encC 2 w0 blk off (L.take a ++ W ++ L.drop (a + (bs + k))).toArray w1 → Hid (∃ L, L.length = N ∧ L.Perm l ∧ BS (2 * bs) L ∧ SWK encC 2 w0 blk off L.toArray w1) := fun W h1 h2 w1 S2 => by
                  obtain ⟨i1, i2⟩ := hI.last hat (by omega) (by omega) h1 h2
                  exact ⟨_, by rw [List.append_assoc, splice_len (by rw [chunk_two]; exact h1), hL], i1, i2, S2⟩
                replace nx := Lib.hid nx
                replace c := Lib.hid c
                clear S1 mrg p1 p2 p3 hat hL hI hk
                go_wp2_with fail
                refine c.out.mono ?_
                rintro e w1 ⟨rfl, W, hW, hWs, S2⟩
                have S3 := nx.out W hW hWs w1 S2
                clear S2 c nx hW hWs
                go_wp2
                go_roundg (N - 2 * bs)
                case measure => omega
                case rel => exact ⟨2 * bs, by simp; omega, by omega, by omega, Nat.le_refl _, S3⟩
              · have hmI : ¬ (a : Int) + (bs : Int) < (N : Int) := by omega
                have S3 : Hid (∃ L, L.length = N ∧ L.Perm l ∧ BS (2 * bs) L ∧ SWK encC 2 w0 blk off L.toArray wr) := ⟨L, hL, hI.perm, hI.over hat (by omega), S1⟩
                clear S1 mrg p1 p2 hat hL hI
                go_wp2
                go_roundg (N - 2 * bs)
                case measure => omega
                case rel => exact ⟨2 * bs, by simp; omega, by omega, by omega, Nat.le_refl _, S3⟩
        · have hltI : ¬ (bs : Int) < (N : Int) := by omega
          have fin : SortPost w0 blk off l (.returned (.tuple #[])) wr := by
            obtain ⟨L, h1, h2, h3, h4⟩ := hall.out
            exact ⟨rfl, L, h2, Srt.all h3 (by omega), h4⟩
          replace fin := Lib.hid fin
          clear hall
          go_wp2
          go_end0
          exact fin.out
theorem sort_stable (w0 w : World) (blk off cap g : Nat) (d0 : Array Cnt) (l : List Cnt) (C : RowC w0 blk off d0 g) (hN : d0.size = l.length) (hs : d0.size < 1152921504606846976)
    (S : SWK encC 2 w0 blk off l.toArray w) :
    Calls Tryz.prog 163 #[.slice (some ⟨blk, off, none⟩) d0.size cap, .func (.func g) #[] #[]] w (SortPost w0 blk off l) := by
  have c := stable_any w0 w blk off cap g d0 l C hN hs S
  clear C S
  obtain ⟨N, hNs⟩ : ∃ N, N = d0.size := ⟨_, rfl⟩
  rw [← hNs] at c hs ⊢
  replace c := Lib.hid c
  clear hN hNs
  go_enter Tryz.func163, Tryz.ntmps163
  go_wp2_with fail
  refine c.out.mono ?_
  rintro e w1 ⟨rfl, h⟩
  replace h := Lib.hid h
  clear c
  go_wp2
  go_end0
  exact ⟨rfl, h.out⟩
end Go.Proofs.YtpiegngjpnpohaaGreat.St

namespace Go.Proofs.YtpiegngjpnpohaaGreat.Mg
open Go.RowKit Go.Shelf Go.Sort Go.Proofs Go.Lib Go.Proofs.YtpiegngjpnpohaaGreat.Sl Go.Proofs.YtpiegngjpnpohaaGreat.Rk Go.Proofs.YtpiegngjpnpohaaGreat.St
set_option linter.unusedVariables false
def SortedPost (w : World) (base : Nat) (A : Option Addr) (l : List Cnt) (e : Ending) (w' : World) : Prop :=
  e = .returned (.tuple #[]) ∧ ∃ L : List Cnt, L.Perm l ∧ Srt L ∧ Rd w' w'.heap.size 2 A (flat L) L.length ∧ RowKit.Below base w w'
theorem insertion_none (w : World) : Calls Tryz.prog 207 #[.slice none 0 0, .int .i64 0, .int .i64 0, .func (.func 164) #[] #[]] w fun e w' => e = .returned (.tuple #[]) ∧ w = w' := by
  go_enter Tryz.func207, Tryz.ntmps207
  go_wp2
  go_loopg [8] (0) (fun kx i wr => i = .int .i64 1 ∧ wr = w)
  case atStart => exact ⟨by simp, rfl⟩
  case round =>
    obtain ⟨rfl, hw⟩ := hrel
    obtain rfl := hw.symm
    clear hw
    go_wp2
    go_end0
    exact ⟨rfl, rfl⟩
theorem stable_none (w : World) : Calls Tryz.prog 195 #[.slice none 0 0, .int .i64 0, .func (.func 164) #[] #[]] w fun e w' => e = .returned (.tuple #[]) ∧ w = w' := by
  have ins := insertion_none w
  go_enter Tryz.func195, Tryz.ntmps195
  go_wp2
  go_loopg [7, 8] (0) (fun kx s7 s8 wr => s7 = .int .i64 0 ∧ s8 = .int .i64 20 ∧ wr = w)
  case atStart => exact ⟨rfl, by simp, rfl⟩
  case round =>
    obtain ⟨rfl, rfl, hw⟩ := hrel
    obtain rfl := hw.symm
    clear hw
    go_wp2_with (refine ins.mono ?_; rintro e w' ⟨rfl, rfl⟩)
    go_loopg [6] (0) (fun kx i wr => i = .int .i64 20 ∧ wr = w)
    case atStart => exact ⟨rfl, rfl⟩
    case round =>
      obtain ⟨rfl, hw⟩ := hrel
      obtain rfl := hw.symm
      clear hw
      go_wp2
      go_end0
      exact ⟨rfl, rfl⟩
theorem sort_none (w : World) : Calls Tryz.prog 163 #[.slice none 0 0, .func (.func 164) #[] #[]] w fun e w' => e = .returned (.tuple #[]) ∧ w = w' := by
  have ins := stable_none w
  go_enter Tryz.func163, Tryz.ntmps163
  go_wp2_with (refine ins.mono ?_; rintro e w' ⟨rfl, rfl⟩)
  go_end0
  exact ⟨rfl, rfl⟩
theorem sort_any (w : World) (base : Nat) (A : Option Addr) (l : List Cnt) (cap : Nat) (h : w.ownsRow base 54 2 (.slice A l.length cap) l.length (flat l)) (hb : base ≤ w.heap.size) (hs : l.length ≤ 4194304) :
    Calls Tryz.prog 163 #[.slice A l.length cap, .func (.func 164) #[] #[]] w (SortedPost w base A l) := by
  rcases h.2 with ⟨h1, h2⟩ | ⟨g, cap', cur, h1, h2, _⟩
  · obtain rfl : l = [] := List.eq_nil_of_length_eq_zero h2
    cases h1
    refine (sort_none w).mono ?_
    rintro e w' ⟨rfl, rfl⟩
    exact ⟨rfl, [], List.Perm.refl _, List.Pairwise.nil, Rd.nil _ _ _ _, RowKit.Below.refl _ _⟩
  · cases h1
    have C := rowC_of_own h (by omega)
    have e0 : l.toArray.size = l.length := by simp
    have c := sort_stable w w g 0 cap 164 l.toArray l C e0 (by rw [e0]; omega) (SWK.start C.1.hH)
    rw [e0] at c
    refine c.mono ?_
    rintro e w' ⟨rfl, L, p, s, S⟩
    have hg := (h.lt g rfl).1
    refine ⟨rfl, L, p, s, ?_, below_swk S hg hb⟩
    exact rd_of_swk S C.1 (by rw [e0]; exact p.length_eq)
theorem clp_last {L : List Cnt} (hs : Srt L) {k : Nat} (hk : k < L.length) : (k = 0 ∧ clp (L.take k) = []) ∨ ∃ r j n, clp (L.take k) = r ++ [(j, n)] ∧ 0 < k ∧ ∃ m, L[k - 1]? = some (j, m) := by
  rcases Nat.eq_zero_or_pos k with rfl | h0
  · exact .inl ⟨rfl, by simp [clp]⟩
  · right
    have h3 := (clp_rise (L.take k) (Srt.take hs k)).2.2
    rw [List.getLast?_take, if_neg (by omega)] at h3
    obtain ⟨m, hm⟩ : ∃ m, L[k - 1]? = some m := ⟨_, List.getElem?_eq_getElem (by omega)⟩
    rw [hm] at h3
    simp only [Option.or, Option.map_some] at h3
    rcases List.eq_nil_or_concat (clp (L.take k)) with e | ⟨r, d, e⟩
    · rw [e] at h3; simp at h3
    · rw [List.concat_eq_append] at e
      rw [e, List.getLast?_concat] at h3
      simp at h3
      exact ⟨r, d.1, d.2, e, h0, m.2, by rw [hm, h3]⟩
theorem stp_len (o : List Cnt) (c : Cnt) : (stp o c).length ≤ o.length + 1 := by
  unfold stp
  rcases List.eq_nil_or_concat o with rfl | ⟨r, d, rfl⟩
  · simp
  · rw [List.concat_eq_append, List.getLast?_concat]
    simp only
    split <;> simp
theorem clp_len (l : List Cnt) : (clp l).length ≤ l.length := by
  refine snoc_cases (p := fun l => (clp l).length ≤ l.length) (Nat.le_refl _) (fun s c ih => ?_) l
  rw [clp_snoc]
  have := stp_len (clp s) c
  simp; omega
theorem okC_okN {l : List Cnt} (h : ∀ c ∈ l, okC c) : okN l := fun c hc => by
  have := h c hc
  unfold okC at this
  simp only [two64]; omega
theorem okC_clp {L : List Cnt} (hs : Srt L) (h : ∀ c ∈ L, okC c) : ∀ c ∈ clp L, okC c := by
  intro c hc
  have h1 := okN_clp L (okC_okN h) c hc
  obtain ⟨d, hd, e⟩ := (clp_rise L hs).2.1 c hc
  have h2 := h d hd
  unfold okC at *
  simp only [two64] at h1
  omega
def MrgPost (w : World) (l : List Cnt) (e : Ending) (w' : World) : Prop :=
  ∃ A c, e = .returned (.slice A l.length c) ∧ w'.ownsRow w.heap.size 54 2 (.slice A l.length c) l.length (flat l) ∧ RowKit.Below w.heap.size w w'
end Go.Proofs.YtpiegngjpnpohaaGreat.Mg

namespace Go.Proofs.YtpiegngjpnpohaaGreat.Mg
open Go.RowKit Go.Shelf Go.Sort Go.Proofs Go.Lib Go.Proofs.YtpiegngjpnpohaaGreat.Sl Go.Proofs.YtpiegngjpnpohaaGreat.Rk Go.Proofs.YtpiegngjpnpohaaGreat.St
set_option linter.unusedVariables false
theorem flat_setN (r : List Cnt) (j n m : Int) : (flat (r ++ [(j, n)])).set (r.length * 2 + 1) (.int .u64 m) = flat (r ++ [(j, m)]) := by
  rw [flat_snoc, flat_snoc, List.set_append_right _ _ (by rw [flat_len]; omega), flat_len]
  simp
theorem cell_new (w : World) (cs : Array Value) (t : TypeId) (j : Nat) : (w.alloc (.cells cs t)).cell? ⟨w.heap.size, j, none⟩ = cs[j]? := by
  have e : (w.alloc (.cells cs t)).heap[w.heap.size]? = some (.cells cs t (0, 0)) := heap_alloc_new w _
  simp only [World.cell?, e]; rfl
theorem app_facts {wr : World} {B2 : Nat} {s : Value} {n : Nat} {xs : List Value} (ho : wr.ownsRow B2 54 2 s n xs) (hB : B2 ≤ wr.heap.size) (o : Obj) (nq : Nat) (x : Cnt) :
    Hid ((((wr.alloc o).drewN nq).alloc (.cells #[.int .i64 x.1, .int .u64 x.2] 54)).ownsRow B2 54 2 s n xs ∧
      Rd (((wr.alloc o).drewN nq).alloc (.cells #[.int .i64 x.1, .int .u64 x.2] 54)) (wr.heap.size + 2) 2 (some ⟨wr.heap.size + 1, 0, none⟩) (flat [x]) 1 ∧
      RowKit.Below B2 wr (((wr.alloc o).drewN nq).alloc (.cells #[.int .i64 x.1, .int .u64 x.2] 54)) ∧ B2 ≤ (((wr.alloc o).drewN nq).alloc (.cells #[.int .i64 x.1, .int .u64 x.2] 54)).heap.size) := by
  have b : RowKit.Below B2 wr (((wr.alloc o).drewN nq).alloc (.cells #[.int .i64 x.1, .int .u64 x.2] 54)) := (below_drewN ((RowKit.Below.refl _ wr).alloc hB o) nq).alloc (Nat.le_trans hB ((RowKit.Below.refl B2 wr).alloc hB o).size) _
  refine ⟨World.ownsRow.alloc (w := (wr.alloc o).drewN nq) (ho.alloc o) _, ?_, b, Nat.le_trans hB b.size⟩
  have := Rd.new ((wr.alloc o).drewN nq) (flat [x]) 54 2 1 rfl
  have e : ((wr.alloc o).drewN nq).heap.size = wr.heap.size + 1 := by simp
  rw [e] at this
  exact this
set_option maxRecDepth 100000 in
set_option maxHeartbeats 4000000 in
theorem merge_any (w : World) (B : Nat) (A1 A2 : Option Addr) (a b : List Cnt) (c1 c2 : Nat) (h1 : Cs w B A1 a) (h2 : Cs w B A2 b) (hB : B ≤ w.heap.size) (hn : a.length + b.length ≤ 4194304) :
    Calls Tryz.prog 113 #[.slice A1 a.length c1, .slice A2 b.length c2] w (MrgPost w (mrg (a ++ b))) := by
  obtain ⟨i0, hi, hz0, hz1, hz2⟩ := info_parts infoCount
  have ha := rd_of_cs h1
  have hb := rd_of_cs h2
  have hok : Hid (∀ c ∈ a ++ b, okC c) := fun c hc => (List.mem_append.1 hc).elim (h1.ok c) (h2.ok c)
  have hl : (a ++ b).length ≤ 4194304 := by rw [List.length_append]; omega
  have cc := fun (w1 : World) (L : Nat) (hb1 : RowKit.Below B w w1) (hL : L < w1.heap.size) h1 h2 => concat_any w1 L A1 A2 a b c1 c2 hL h1 h2 ((ha.below hb1).mono (Nat.le_trans hB hb1.size)) ((hb.below hb1).mono (Nat.le_trans hB hb1.size)) hn
  replace cc := Lib.hid cc
  clear ha hb h1 h2 hn
  have e0 : Hid (∀ o, RowKit.Below w.heap.size w (w.alloc o)) := fun o => (RowKit.Below.refl _ _).alloc (Nat.le_refl _) o
  go_enter Tryz.func113, Tryz.ntmps113
  go_wp2_with fail
  refine (cc.out _ _ ((e0.out _).mono hB) (by simp) (cell_new _ _ _ _) (cell_new _ _ _ _)).mono ?_
  rintro e w1 ⟨A, c, rfl, ho, hb1⟩
  have hbw1 : RowKit.Below w.heap.size w w1 := (e0.out _).trans (hb1.mono (by simp))
  have ho1 := own_base (base' := w.heap.size) ho (by simp)
  clear hb1 ho cc e0
  generalize hab : a ++ b = ab at *
  replace hab := Lib.hid hab
  have cs := sort_any w1 w.heap.size A ab c ho1 hbw1.size hl
  clear ho1
  go_wp2_with fail
  refine cs.mono ?_
  rintro e w2 ⟨rfl, L, hp, hs, hr, hb2⟩
  clear cs
  have hbw2 := hbw1.trans hb2
  have hokL : ∀ c ∈ L, okC c := fun c hc => hok.out c (hp.mem_iff.1 hc)
  have hlen : L.length = ab.length := hp.length_eq
  rw [← hlen] at hl ⊢
  have fin0 : mrg ab = nz (clp L) := (mrg_of hs hp (okC_okN hok.out)).symm
  replace fin0 := Lib.hid fin0
  obtain ⟨N, hN⟩ : ∃ N, N = L.length := ⟨_, rfl⟩
  rw [← hN] at hl hr hlen ⊢
  obtain ⟨B2, hB2⟩ : ∃ B2, B2 = w2.heap.size := ⟨_, rfl⟩
  rw [← hB2] at hr
  have hwB : w.heap.size ≤ B2 := by rw [hB2]; exact hbw2.size
  have hokp : Hid (∀ c ∈ clp L, okC c) := okC_clp hs hokL
  have dl := fun (w3 : World) (A3 : Option Addr) (c3 : Nat) (o : w3.ownsRow B2 54 2 (.slice A3 (clp L).length c3) (clp L).length (flat (clp L))) (y : B2 ≤ w3.heap.size) => delete_any w3 B2 A3 (clp L) c3 o hokp.out y
  replace dl := Lib.hid dl
  replace hB2 := Lib.hid hB2
  replace hN := Lib.hid hN
  replace hs := Lib.hid hs
  clear hlen hp hok hokL hb2 hbw1 hab hokp
  go_wp2
  go_loopw [6, 17] (fun o i wr => ∃ (k : Nat) (A3 : Option Addr) (c3 : Nat) (os : List Cnt), k ≤ N ∧ i = .int .i64 k ∧ o = .slice A3 os.length c3 ∧ wr.ownsRow B2 54 2 (.slice A3 os.length c3) os.length (flat os) ∧ RowKit.Below B2 w2 wr ∧ Hid (os = clp (L.take k))) (fun _ i _ => N - (intOf i).toNat)
  case atStart => exact ⟨0, none, 0, [], Nat.zero_le _, rfl, rfl, World.ownsRow_nil w2 _ _ _, RowKit.Below.refl _ _, Lib.hid (by simp [clp])⟩
  case round =>
    obtain ⟨k, A3, c3, os, hk, rfl, rfl, ho, hb, hos⟩ := hrel
    have hBr : B2 ≤ wr.heap.size := by rw [hB2.out]; exact hb.size
    by_cases hlt : k < N
    · obtain ⟨bb, off, rfl, hbB, hc⟩ := (hr.below hb).cells (by omega)
      have hkL : k < L.length := by rw [← hN.out]; exact hlt
      obtain ⟨x, hx⟩ : ∃ x, x = L[k] := ⟨_, rfl⟩
      obtain ⟨f1, f2⟩ := flat_get L k x (by rw [hx]; exact List.getElem?_eq_getElem hkL)
      have k1 := hc _ _ f1
      have k2 := hc _ _ f2
      rw [← Nat.add_assoc] at k2
      have hnext : Hid (stp os x = clp (L.take (k + 1))) := Lib.hid (by rw [take_snoc hkL, clp_snoc, ← hos.out, hx])
      have hlast := clp_last hs.out hkL
      rw [← hos.out] at hlast
      have hosl : os.length ≤ k := by
        have := clp_len (L.take k)
        rw [← hos.out, List.length_take] at this; omega
      replace hx := Lib.hid hx
      obtain ⟨xj, xn⟩ := x
      simp only at k1 k2
      have below1 : ∀ o, RowKit.Below B2 wr (wr.alloc o) := fun o => (RowKit.Below.refl _ _).alloc hBr o
      rcases hlast with ⟨e1, rfl⟩ | ⟨r, j, n, e1, h0, m, hm⟩
      · have hd1 : decide ((0 : Int) < (k : Int)) = false := by rw [e1]; rfl
        have hd2 : decide (0 < k) = false := by rw [e1]; rfl
        replace below1 := Lib.hid below1
        replace e1 := Lib.hid e1
        clear hc f1 f2 hos
        go_wp2
        go_quiet (fail)
        have af := app_facts ho hBr (.cells #[.int .i64 xj, .int .u64 xn] 54) nq (xj, xn)
        clear ho
        go_wp2_with (at_builtin; refine wpList_append_rd rfl (.tmp 47) (.tmp 49) _ rfl B2 54 Tryz.underlying46 hi hz0 hz1 hz2 rfl (by decide) rfl af.out.1 rfl af.out.2.1 (flat_one _) (by unfold maxLen; simp) (by simp) af.out.2.2.2 ?_; intro A4 c4 w4 ho4 hb4 hs4)
        exact ⟨⟨k + 1, A4, c4, [(xj, xn)], by omega, by go_num, rfl, by simpa [flat] using ho4, hb.trans (af.out.2.2.1.trans hb4), Lib.hid (by rw [← hnext.out]; rfl)⟩, by simp [intOf]; omega⟩
      · obtain ⟨f3, f4⟩ := flat_get L (k - 1) (j, m) hm
        have k3 : ∀ o, (wr.alloc o).cell? ⟨bb, off + (k - 1) * 2, none⟩ = some (.int .i64 j) := fun o => ((below1 o).cell (p := ⟨bb, off + (k - 1) * 2, none⟩) hbB).trans (hc _ _ f3)
        replace below1 := Lib.hid below1
        obtain ⟨g, hA⟩ : ∃ g, A3 = some ⟨g, 0, none⟩ := by
          rcases ho.2 with ⟨h1, h2⟩ | ⟨g, cap', cur, h1, h2⟩
          · rw [e1] at h2; simp at h2
          · cases h1; exact ⟨g, rfl⟩
        subst hA
        have hg : B2 ≤ g := (ho.lt g rfl).1
        subst e1
        have hi1 : 1 ≤ (k : Int) := by omega
        have hi2 : (k : Int) - 1 < (N : Int) := by omega
        have hd1 : decide ((0 : Int) < (k : Int)) = true := decide_eq_true (by omega)
        have hd2 : decide (0 < k) = true := decide_eq_true h0
        have gg : ∀ o nq, g < ((wr.alloc o).drewN nq).heap.size := fun o nq => by have := (ho.lt g rfl).2; simp; omega
        by_cases hj : j = xj
        · subst hj
          have hjj : (j == j) = true := beq_self_eq_true _
          rw [stp_same] at hnext
          have own2 := fun o nq => World.ownsRow.stored (w := (wr.alloc o).drewN nq) (u := .int .u64 ((n + xn) % two64)) (ho.alloc o) (r.length * 2 + 1)
          have q1 : ∀ o nq, ((wr.alloc o).drewN nq).cell? ⟨g, r.length * 2 + 1, none⟩ = some (.int .u64 n) := fun o nq => by
            have := World.ownsRow.cellAt (w := (wr.alloc o).drewN nq) (g := g) (ho.alloc o) (r.length * 2 + 1) (by simp; omega)
            rw [this]
            exact (flat_get _ r.length (j, n) (by simp)).2
          have q2 : ∀ o nq, ((wr.alloc o).drewN nq).frozen? ⟨g, r.length * 2 + 1, none⟩ = false := fun o nq => World.ownsRow.frozenAt (w := (wr.alloc o).drewN nq) (ho.alloc o) _
          replace own2 := Lib.hid own2
          clear hc f1 f2 f3 f4 hm hos
          simp only [List.length_append, List.length_cons, List.length_nil, Nat.zero_add] at *
          replace h0 := Lib.hid h0
          have y1 : (0 : Int) ≤ (k : Int) - 1 := by omega
          have y2 : ((k : Int) - 1).toNat = k - 1 := by omega
          have y3 : IntKind.i64.wrap ((k : Int) - 1) = (k : Int) - 1 := IntWalk.i64_in _ (by omega)
          go_wp2
          go_quiet (fail)
          clear y1 y2 y3
          have q3 := q1 (.cells #[.int .i64 j, .int .u64 xn] 54) nq
          have q4 := q2 (.cells #[.int .i64 j, .int .u64 xn] 54) nq
          have q5 := gg (.cells #[.int .i64 j, .int .u64 xn] 54) nq
          clear q1 q2 gg k1 k2 k3 hd1 hd2 hi1 hi2
          have q6 : ((wr.alloc (.cells #[.int .i64 j, .int .u64 xn] 54)).drewN nq).cell? ⟨wr.heap.size, 1, none⟩ = some (.int .u64 xn) := by rw [World.cell?_drewN, cell_new]; rfl
          obtain ⟨W, hW⟩ : ∃ W, W = (wr.alloc (.cells #[.int .i64 j, .int .u64 xn] 54)).drewN nq := ⟨_, rfl⟩
          have own3 := own2.out (.cells #[.int .i64 j, .int .u64 xn] 54) nq
          rw [← hW] at q3 q4 q5 q6 own3 ⊢
          replace own3 := Lib.hid own3
          clear own2
          replace hW := Lib.hid hW
          go_wp2
          go_region
          go_wp2
          have ew : IntKind.u64.wrap (n + xn) = (n + xn) % two64 := by rw [IntKind.wrap_u64]; rfl
          have e2 := own3.out.1
          rw [flat_setN] at e2
          have hbW : RowKit.Below B2 wr W := by rw [hW.out]; exact below_drewN (below1.out _) nq
          exact ⟨⟨k + 1, some ⟨g, 0, none⟩, c3, r ++ [(j, (n + xn) % two64)], by omega, by go_num, by simp, by rw [ew]; simp only [List.length_append, List.length_cons, List.length_nil, Nat.zero_add]; exact e2, hb.trans ((hbW.setCell (p := ⟨g, r.length * 2 + 1, none⟩) hg _).drew), hnext⟩, by simp [intOf]; omega⟩
        · have hjj : (j == xj) = false := beq_eq_false_iff_ne.2 hj
          rw [stp_other _ _ _ hj] at hnext
          clear hc f1 f2 f3 f4 hm hos
          simp only [List.length_append, List.length_cons, List.length_nil, Nat.zero_add] at *
          replace h0 := Lib.hid h0
          have g1 : r.length + 1 + 1 ≤ maxLen := by unfold maxLen; omega
          have g2 : (r.length + 1 + 1) * 16 ≤ 140737488355328 := by omega
          have y1 : (0 : Int) ≤ (k : Int) - 1 := by omega
          have y2 : ((k : Int) - 1).toNat = k - 1 := by omega
          have y3 : IntKind.i64.wrap ((k : Int) - 1) = (k : Int) - 1 := IntWalk.i64_in _ (by omega)
          go_wp2
          go_quiet (fail)
          clear y1 y2 y3
          have af := app_facts ho hBr (.cells #[.int .i64 xj, .int .u64 xn] 54) nq (xj, xn)
          clear ho k1 k2 k3 hd1 hd2 hi1 hi2
          go_wp2_with (at_builtin; refine wpList_append_rd rfl (.tmp 47) (.tmp 49) _ rfl B2 54 Tryz.underlying46 hi hz0 hz1 hz2 rfl (by decide) rfl af.out.1 rfl af.out.2.1 (flat_one _) g1 g2 af.out.2.2.2 ?_; intro A4 c4 w4 ho4 hb4 hs4)
          exact ⟨⟨k + 1, A4, c4, r ++ [(j, n), (xj, xn)], by omega, by go_num, by simp, by simpa [flat] using ho4, hb.trans (af.out.2.2.1.trans hb4), hnext⟩, by simp [intOf]; omega⟩
    · have e : os = clp L := by rw [hos.out, List.take_of_length_le (by rw [← hN.out]; omega)]
      clear hos
      subst e
      have d := dl.out wr A3 c3 ho hBr
      replace d := Lib.hid d
      clear dl ho
      have hbr : Hid (RowKit.Below B2 w2 wr) := hb
      clear hb
      go_wp2_with fail
      refine d.out.mono ?_
      rintro e w' ⟨A, rfl, o, hb'⟩
      go_wp2
      go_ret
      rw [← fin0.out] at o ⊢
      refine ⟨A, c3, rfl, own_base o hwB, hbw2.trans ((hbr.out.mono hwB).trans (hb'.mono hwB))⟩
end Go.Proofs.YtpiegngjpnpohaaGreat.Mg
