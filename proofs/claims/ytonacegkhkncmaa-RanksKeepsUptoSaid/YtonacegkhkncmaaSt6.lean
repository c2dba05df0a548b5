/- Go's stable sorting at counts: blocks that double. -/
import Derived.Test.YtonacegkhkncmaaSt4
import Derived.Test.YtonacegkhkncmaaSt5
namespace Go.Proofs.Ytonacegkhkncmaa.St
open Go.RowKit Go.Sort Go.Shelf Go.Proofs Go.Lib
set_option linter.unusedVariables false

theorem parts3 (l : List Cnt) (a n : Nat) : l = l.take a ++ chunk l a n ++ l.drop (a + n) := by
  have := chunk_split l a n
  rwa [← List.append_assoc] at this
theorem parts4 (l : List Cnt) (a n m : Nat) : l = l.take a ++ (chunk l a n ++ chunk l (a + n) m) ++ l.drop (a + (n + m)) := by
  rw [← chunk_two]; exact parts3 l a (n + m)

/-- The first t blocks of 20 rise. -/
structure Ini (t : Nat) (l0 L : List Cnt) : Prop where
  perm : L.Perm l0
  done : ∀ u, u < t → Srt (chunk L (u * 20) 20)
theorem Ini.step {t a : Nat} {l0 L W : List Cnt} (h : Ini t l0 L) (ha : a = t * 20) (hl : a + 20 ≤ L.length) (hW : W.Perm (chunk L a 20)) (hs : Srt W) : Ini (t + 1) l0 (L.take a ++ W ++ L.drop (a + 20)) := by
  have hWl : W.length = 20 := by rw [hW.length_eq, chunk_len hl]
  rw [List.append_assoc]
  refine ⟨(splice_perm hW).trans h.perm, fun u hu => ?_⟩
  by_cases hut : u < t
  · rw [chunk_before hWl hl (by omega)]; exact h.done u hut
  · obtain rfl : u = t := by omega
    rw [← ha, ← hWl, hWl, chunk_at hWl (by omega)]; exact hs
theorem Ini.last {t a k : Nat} {l0 L W : List Cnt} (h : Ini t l0 L) (ha : a = t * 20) (hk : L.length = a + k) (hk2 : k ≤ 20) (hW : W.Perm (chunk L a k)) (hs : Srt W) : (L.take a ++ W ++ L.drop (a + k)).Perm l0 ∧ BS 20 (L.take a ++ W ++ L.drop (a + k)) := by
  have hWl : W.length = k := by rw [hW.length_eq, chunk_len (by omega)]
  rw [List.append_assoc]
  have hlen := splice_len hW
  refine ⟨(splice_perm hW).trans h.perm, fun u => ?_⟩
  rcases Nat.lt_trichotomy u t with hut | hut | hut
  · rw [chunk_before hWl (by omega) (by omega)]; exact h.done u hut
  · subst hut
    rw [← ha, chunk_rest (by rw [hlen]; omega), hlen, show L.length - a = k by omega, chunk_at hWl (by omega)]; exact hs
  · rw [chunk_none (by rw [hlen]; omega)]; exact Srt.nil

/-- The first t blocks of twice bs rise, behind them those of bs. -/
structure Mid (bs t : Nat) (l0 L : List Cnt) : Prop where
  perm : L.Perm l0
  done : ∀ u, u < t → Srt (chunk L (u * (2 * bs)) (2 * bs))
  todo : ∀ u, 2 * t ≤ u → Srt (chunk L (u * bs) bs)
theorem Mid.start {bs : Nat} {l0 L : List Cnt} (hp : L.Perm l0) (h : BS bs L) : Mid bs 0 l0 L := ⟨hp, fun u hu => absurd hu (by omega), fun u _ => h u⟩
theorem Mid.parts {bs t a : Nat} {l0 L : List Cnt} (h : Mid bs t l0 L) (ha : a = t * (2 * bs)) : Srt (chunk L a bs) ∧ Srt (chunk L (a + bs) bs) := by
  have h1 := h.todo (2 * t) (by omega)
  have h2 := h.todo (2 * t + 1) (by omega)
  have e1 : 2 * t * bs = a := by rw [ha, Nat.mul_comm 2 t, Nat.mul_assoc]
  rw [Nat.add_mul, e1, Nat.one_mul] at h2
  rw [e1] at h1
  exact ⟨h1, h2⟩
theorem before {bs t u : Nat} (h : u < t) : u * (2 * bs) + 2 * bs ≤ t * (2 * bs) := by
  have := Nat.mul_le_mul_right (2 * bs) (show u + 1 ≤ t by omega)
  rwa [Nat.add_mul, Nat.one_mul] at this
theorem Mid.step {bs t a : Nat} {l0 L W : List Cnt} (h : Mid bs t l0 L) (ha : a = t * (2 * bs)) (hl : a + (bs + bs) ≤ L.length) (hW : W.Perm (chunk L a bs ++ chunk L (a + bs) bs)) (hs : Srt W) : Mid bs (t + 1) l0 (L.take a ++ W ++ L.drop (a + (bs + bs))) := by
  rw [← chunk_two] at hW
  have hWl : W.length = bs + bs := by rw [hW.length_eq, chunk_len hl]
  rw [List.append_assoc]
  refine ⟨(splice_perm hW).trans h.perm, fun u hu => ?_, fun u hu => ?_⟩
  · by_cases hut : u < t
    · rw [chunk_before hWl hl (by have := before (bs := bs) hut; omega)]; exact h.done u hut
    · obtain rfl : u = t := by omega
      have := chunk_at (l := L) (a := a) hWl (by omega)
      rw [← ha, Nat.two_mul, this]; exact hs
  · rw [chunk_behind hWl hl (by
      have := Nat.mul_le_mul_right bs hu
      rw [Nat.mul_add, Nat.add_mul, Nat.mul_one, Nat.mul_comm 2 t, Nat.mul_assoc, ← ha] at this; omega)]
    exact h.todo u (by omega)
theorem Mid.over {bs t a : Nat} {l0 L : List Cnt} (h : Mid bs t l0 L) (ha : a = t * (2 * bs)) (hl : L.length ≤ a + bs) : BS (2 * bs) L := by
  intro u
  rcases Nat.lt_trichotomy u t with hut | hut | hut
  · exact h.done u hut
  · subst hut
    rw [← ha, chunk_rest (by omega), ← chunk_rest hl]
    exact (h.parts ha).1
  · have := before (bs := bs) hut
    rw [chunk_none (by omega)]; exact Srt.nil
theorem Mid.last {bs t a k : Nat} {l0 L W : List Cnt} (h : Mid bs t l0 L) (ha : a = t * (2 * bs)) (hk : L.length = a + (bs + k)) (hk2 : k ≤ bs) (hW : W.Perm (chunk L a bs ++ chunk L (a + bs) k)) (hs : Srt W) :
    (L.take a ++ W ++ L.drop (a + (bs + k))).Perm l0 ∧ BS (2 * bs) (L.take a ++ W ++ L.drop (a + (bs + k))) := by
  rw [← chunk_two] at hW
  have hWl : W.length = bs + k := by rw [hW.length_eq, chunk_len (by omega)]
  rw [List.append_assoc]
  have hlen := splice_len hW
  refine ⟨(splice_perm hW).trans h.perm, fun u => ?_⟩
  rcases Nat.lt_trichotomy u t with hut | hut | hut
  · rw [chunk_before hWl (by omega) (by have := before (bs := bs) hut; omega)]; exact h.done u hut
  · subst hut
    rw [← ha, chunk_rest (by rw [hlen]; omega), hlen, show L.length - a = bs + k by omega, chunk_at hWl (by omega)]; exact hs
  · have := before (bs := bs) hut
    rw [chunk_none (by rw [hlen]; omega)]; exact Srt.nil

/-- What the whole leaves: the same counts, rising. -/
def SortPost (w0 : World) (blk off : Nat) (l : List Cnt) (e : Ending) (w' : World) : Prop := e = .returned (.tuple #[]) ∧ ∃ L : List Cnt, L.Perm l ∧ Srt L ∧ SWK encC 2 w0 blk off L.toArray w'

set_option maxRecDepth 100000 in
set_option maxHeartbeats 4000000 in
theorem stable_any (w0 w : World) (blk off cap g : Nat) (d0 : Array Cnt) (l : List Cnt) (C : RowC w0 blk off d0 g) (hN : d0.size = l.length) (hs : d0.size < 1152921504606846976)
    (S : SWK encC 2 w0 blk off l.toArray w) :
    Calls Try.prog 61 #[.slice (some ⟨blk, off, none⟩) d0.size cap, .int .i64 d0.size, .func (.func g) #[] #[]] w (SortPost w0 blk off l) := by
  have ins := fun (w : World) (a b : Nat) (X Z Y : List Cnt) => insertion_any w0 w blk off cap a b g d0 X Z Y C
  have mrg := fun (w : World) (a m b : Nat) (X U V Y : List Cnt) => merge_any w0 blk off cap g d0 C (b - a + 1) w a m b X U V Y (by omega)
  obtain ⟨N, hNs⟩ : ∃ N, N = d0.size := ⟨_, rfl⟩
  rw [← hNs] at hN hs ins mrg ⊢
  have hNI : (N : Int) < 1152921504606846976 := by omega
  replace hN := Lib.hid hN
  replace ins := Lib.hid ins
  replace mrg := Lib.hid mrg
  have S0 := Lib.hid S
  clear S C hNs
  go_enter Try.func61, Try.ntmps61
  go_wp2
  go_loopg [7, 8] (N) (fun kx s7 s8 wr => ∃ (t a : Nat), s7 = .int .i64 (a : Int) ∧ s8 = .int .i64 ((a : Int) + 20) ∧ a ≤ N ∧ N - a ≤ kx ∧ Hid (a = t * 20 ∧ ∃ L, L.length = N ∧ Ini t l L ∧ SWK encC 2 w0 blk off L.toArray wr))
  case atStart => exact ⟨0, 0, rfl, by simp, Nat.zero_le _, by omega, by simp, l, hN.out.symm, ⟨List.Perm.refl _, fun u hu => absurd hu (by omega)⟩, S0.out⟩
  case round =>
    clear S0
    obtain ⟨t, a, rfl, rfl, haN, hkx, hall⟩ := hrel
    obtain ⟨hat, L, hL, hI, S1⟩ := hall.out
    clear hall
    by_cases hb : a + 20 ≤ N
    · have hbI : (a : Int) + 20 ≤ (N : Int) := by omega
      have c := ins.out wr a (a + 20) (L.take a) (chunk L a 20) (L.drop (a + 20)) (by rw [List.length_take]; omega) (by rw [List.length_take, chunk_len (by omega)]; omega) (by rw [List.length_take, chunk_len (by omega), List.length_drop]; omega) (by rw [← parts3]; exact S1)
      have e1 : ((a + 20 : Nat) : Int) = (a : Int) + 20 := by omega
      rw [e1] at c
      have nx : ∀ W, W.Perm (chunk L a 20) → Srt W → ∀ w1, SWK encC 2 w0 blk off (L.take a ++ W ++ L.drop (a + 20)).toArray w1 → Hid (a + 20 = (t + 1) * 20 ∧ ∃ L, L.length = N ∧ Ini (t + 1) l L ∧ SWK encC 2 w0 blk off L.toArray w1) := fun W h1 h2 w1 S2 =>
        ⟨by omega, _, by rw [List.append_assoc, splice_len h1, hL], hI.step hat (by omega) h1 h2, S2⟩
      replace nx := Lib.hid nx
      replace hat := Lib.hid hat
      replace hL := Lib.hid hL
      replace hI := Lib.hid hI
      replace c := Lib.hid c
      clear S1 ins mrg
      go_wp2_with fail
      refine c.out.mono ?_
      rintro e w1 ⟨rfl, W, hW, hWs, S2⟩
      have S3 := nx.out W hW hWs w1 S2
      clear S2 c nx hW hWs
      go_wp2
      go_roundg (N - (a + 20))
      case measure => omega
      case rel => exact ⟨t + 1, a + 20, rfl, by simp, hb, Nat.le_refl _, S3⟩
    · have hbI : ¬ (a : Int) + 20 ≤ (N : Int) := by omega
      obtain ⟨k, hk⟩ : ∃ k, k = N - a := ⟨_, rfl⟩
      have c := ins.out wr a N (L.take a) (chunk L a k) (L.drop (a + k)) (by rw [List.length_take]; omega) (by rw [List.length_take, chunk_len (by omega)]; omega) (by rw [List.length_take, chunk_len (by omega), List.length_drop]; omega) (by rw [← parts3]; exact S1)
      have nx : ∀ W, W.Perm (chunk L a k) → Srt W → ∀ w1, SWK encC 2 w0 blk off (L.take a ++ W ++ L.drop (a + k)).toArray w1 → Hid (∃ L, L.length = N ∧ L.Perm l ∧ BS 20 L ∧ SWK encC 2 w0 blk off L.toArray w1) := fun W h1 h2 w1 S2 => by
        obtain ⟨i1, i2⟩ := hI.last hat (by omega) (by omega) h1 h2
        exact ⟨_, by rw [List.append_assoc, splice_len h1, hL], i1, i2, S2⟩
      replace nx := Lib.hid nx
      replace c := Lib.hid c
      clear S1 ins hat hL hI hkx hk
      go_wp2_with fail
      refine c.out.mono ?_
      rintro e w1 ⟨rfl, W, hW, hWs, S2⟩
      have S3 := nx.out W hW hWs w1 S2
      clear S2 c nx hW hWs
      go_wp2_with fail
      go_loopg [6, 7, 8, 9] (N) (fun kx s6 s7 s8 s9 wr => ∃ (bs : Nat), s6 = .int .i64 (bs : Int) ∧ 0 < bs ∧ bs < 2305843009213693952 ∧ N - bs ≤ kx ∧ Hid (∃ L, L.length = N ∧ L.Perm l ∧ BS bs L ∧ SWK encC 2 w0 blk off L.toArray wr))
      case atStart => exact ⟨20, rfl, by omega, by omega, by omega, S3⟩
      case round =>
        clear S3 W hb hbI k w1
        obtain ⟨bs, rfl, hbs, hbz, hkx, hall⟩ := hrel
        by_cases hlt : bs < N
        · have hltI : (bs : Int) < (N : Int) := by omega
          have hst : Hid (0 = 0 * (2 * bs) ∧ ∃ L, L.length = N ∧ Mid bs 0 l L ∧ SWK encC 2 w0 blk off L.toArray wr) := by
            obtain ⟨L, h1, h2, h3, h4⟩ := hall.out
            exact ⟨by simp, L, h1, Mid.start h2 h3, h4⟩
          clear hall
          go_wp2_with fail
          go_loopg [7, 8] (N) (fun kx s7 s8 wr => ∃ (t a : Nat), s7 = .int .i64 (a : Int) ∧ s8 = .int .i64 ((a : Int) + 2 * (bs : Int)) ∧ a ≤ N ∧ N - a ≤ kx ∧ Hid (a = t * (2 * bs) ∧ ∃ L, L.length = N ∧ Mid bs t l L ∧ SWK encC 2 w0 blk off L.toArray wr))
          case atStart => exact ⟨0, 0, rfl, by simp, Nat.zero_le _, by omega, hst⟩
          case round =>
            clear hst
            obtain ⟨t, a, rfl, rfl, haN, hkx2, hall⟩ := hrel
            obtain ⟨hat, L, hL, hI, S1⟩ := hall.out
            clear hall
            obtain ⟨p1, p2⟩ := hI.parts hat
            by_cases hb : a + 2 * bs ≤ N
            · have hbI : (a : Int) + 2 * (bs : Int) ≤ (N : Int) := by omega
              have c := mrg.out wr a (a + bs) (a + 2 * bs) (L.take a) (chunk L a bs) (chunk L (a + bs) bs) (L.drop (a + (bs + bs)))
                (by rw [List.length_take]; omega) (by rw [List.length_take, chunk_len (by omega)]; omega) (by rw [List.length_take, chunk_len (by omega), chunk_len (by omega)]; omega) (by rw [chunk_len (by omega)]; omega) (by rw [chunk_len (by omega)]; omega)
                (by rw [List.length_take, chunk_len (by omega), chunk_len (by omega), List.length_drop]; omega) p1 p2 (by rw [← parts4]; exact S1)
              have e1 : ((a + bs : Nat) : Int) = (a : Int) + bs := by omega
              have e2 : ((a + 2 * bs : Nat) : Int) = (a : Int) + 2 * bs := by omega
              rw [e1, e2] at c
              have nx : ∀ W, W.Perm (chunk L a bs ++ chunk L (a + bs) bs) → Srt W → ∀ w1, SWK encC 2 w0 blk off (L.take a ++ W ++ L.drop (a + (bs + bs))).toArray w1 → Hid (a + 2 * bs = (t + 1) * (2 * bs) ∧ ∃ L, L.length = N ∧ Mid bs (t + 1) l L ∧ SWK encC 2 w0 blk off L.toArray w1) := fun W h1 h2 w1 S2 =>
                ⟨by rw [Nat.add_mul, Nat.one_mul, hat], _, by rw [List.append_assoc, splice_len (by rw [chunk_two]; exact h1), hL], hI.step hat (by omega) h1 h2, S2⟩
              replace nx := Lib.hid nx
              replace hat := Lib.hid hat
              replace hL := Lib.hid hL
              replace hI := Lib.hid hI
              replace c := Lib.hid c
              clear S1 mrg p1 p2
              go_wp2_with fail
              refine c.out.mono ?_
              rintro e w1 ⟨rfl, W, hW, hWs, S2⟩
              have S3 := nx.out W hW hWs w1 S2
              clear S2 c nx hW hWs
              go_wp2
              go_roundg (N - (a + 2 * bs))
              case measure => omega
              case rel => exact ⟨t + 1, a + 2 * bs, by rw [e2], by rw [e2], hb, Nat.le_refl _, S3⟩
            · have hbI : ¬ (a : Int) + 2 * (bs : Int) ≤ (N : Int) := by omega
              by_cases hm : a + bs < N
              · have hmI : (a : Int) + (bs : Int) < (N : Int) := by omega
                obtain ⟨k, hk⟩ : ∃ k, k = N - (a + bs) := ⟨_, rfl⟩
                have p3 : Srt (chunk L (a + bs) k) := by
                  rw [chunk_rest (by omega)] at p2
                  rwa [hk, ← hL]
                have c := mrg.out wr a (a + bs) N (L.take a) (chunk L a bs) (chunk L (a + bs) k) (L.drop (a + (bs + k)))
                  (by rw [List.length_take]; omega) (by rw [List.length_take, chunk_len (by omega)]; omega) (by rw [List.length_take, chunk_len (by omega), chunk_len (by omega)]; omega) (by rw [chunk_len (by omega)]; omega) (by rw [chunk_len (by omega)]; omega)
                  (by rw [List.length_take, chunk_len (by omega), chunk_len (by omega), List.length_drop]; omega) p1 p3 (by rw [← parts4]; exact S1)
                have e1 : ((a + bs : Nat) : Int) = (a : Int) + bs := by omega
                rw [e1] at c
                have nx : ∀ W, W.Perm (chunk L a bs ++ chunk L (a + bs) k) → Srt W → ∀ w1, SWK encC 2 w0 blk off (L.take a ++ W ++ L.drop (a + (bs + k))).toArray w1 → Hid (∃ L, L.length = N ∧ L.Perm l ∧ BS (2 * bs) L ∧ SWK encC 2 w0 blk off L.toArray w1) := fun W h1 h2 w1 S2 => by
                  obtain ⟨i1, i2⟩ := hI.last hat (by omega) (by omega) h1 h2
                  exact ⟨_, by rw [List.append_assoc, splice_len (by rw [chunk_two]; exact h1), hL], i1, i2, S2⟩
                replace nx := Lib.hid nx
                replace c := Lib.hid c
                clear S1 mrg p1 p2 p3 hat hL hI hk
                go_wp2_with fail
                refine c.out.mono ?_
                rintro e w1 ⟨rfl, W, hW, hWs, S2⟩
                have S3 := nx.out W hW hWs w1 S2
                clear S2 c nx hW hWs
                go_wp2
                go_roundg (N - 2 * bs)
                case measure => omega
                case rel => exact ⟨2 * bs, by simp; omega, by omega, by omega, Nat.le_refl _, S3⟩
              · have hmI : ¬ (a : Int) + (bs : Int) < (N : Int) := by omega
                have S3 : Hid (∃ L, L.length = N ∧ L.Perm l ∧ BS (2 * bs) L ∧ SWK encC 2 w0 blk off L.toArray wr) := ⟨L, hL, hI.perm, hI.over hat (by omega), S1⟩
                clear S1 mrg p1 p2 hat hL hI
                go_wp2
                go_roundg (N - 2 * bs)
                case measure => omega
                case rel => exact ⟨2 * bs, by simp; omega, by omega, by omega, Nat.le_refl _, S3⟩
        · have hltI : ¬ (bs : Int) < (N : Int) := by omega
          have fin : SortPost w0 blk off l (.returned (.tuple #[])) wr := by
            obtain ⟨L, h1, h2, h3, h4⟩ := hall.out
            exact ⟨rfl, L, h2, Srt.all h3 (by omega), h4⟩
          replace fin := Lib.hid fin
          clear hall
          go_wp2
          go_end0
          exact fin.out

theorem sort_stable (w0 w : World) (blk off cap g : Nat) (d0 : Array Cnt) (l : List Cnt) (C : RowC w0 blk off d0 g) (hN : d0.size = l.length) (hs : d0.size < 1152921504606846976)
    (S : SWK encC 2 w0 blk off l.toArray w) :
    Calls Try.prog 50 #[.slice (some ⟨blk, off, none⟩) d0.size cap, .func (.func g) #[] #[]] w (SortPost w0 blk off l) := by
  have c := stable_any w0 w blk off cap g d0 l C hN hs S
  clear C S
  obtain ⟨N, hNs⟩ : ∃ N, N = d0.size := ⟨_, rfl⟩
  rw [← hNs] at c hs ⊢
  replace c := Lib.hid c
  clear hN hNs
  go_enter Try.func50, Try.ntmps50
  go_wp2_with fail
  refine c.out.mono ?_
  rintro e w1 ⟨rfl, h⟩
  replace h := Lib.hid h
  clear c
  go_wp2
  go_end0
  exact ⟨rfl, h.out⟩
end Go.Proofs.Ytonacegkhkncmaa.St
