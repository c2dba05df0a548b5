/- Lemmas for the laws of this seat, laid together of St5, St6, Mg3. -/
import Derived.Test.YtpiegngjpnpohaaGreatK13
import Derived.Test.YtpiegngjpnpohaaGreatK15

namespace Go.Proofs.YtpiegngjpnpohaaGreat.St
open Go.RowKit Go.Sort Go.Shelf Go.Proofs Go.Lib
set_option linter.unusedVariables false
set_option maxRecDepth 100000 in
set_option maxHeartbeats 4000000 in
theorem insertion_any (w0 w : World) (blk off cap a b g : Nat) (d0 : Array Cnt) (X Z Y : List Cnt) (C : RowC w0 blk off d0 g) (ha : a = X.length) (hb : b = X.length + Z.length) (hN : d0.size = X.length + Z.length + Y.length)
    (S : SWK encC 2 w0 blk off (X ++ Z ++ Y).toArray w) :
    Calls Tryz.prog 207 #[.slice (some ⟨blk, off, none⟩) d0.size cap, .int .i64 a, .int .i64 b, .func (.func g) #[] #[]] w (MergePost w0 blk off X Z Y) := by
  obtain ⟨N, hNs⟩ : ∃ N, N = d0.size := ⟨_, rfl⟩
  have hsz := C.small
  rw [← hNs] at hN hsz ⊢
  have hNI : (N : Int) < 4611686018427387904 := by omega
  have hab : a ≤ b := by omega
  have hbN : b ≤ N := by omega
  have hZl : Z.length = b - a := by omega
  have eg := C.eg
  have mixed : Tryz.prog.follows .mixedOrders = true := by kernel_rfl
  have S0 : Hid (∃ P Q : List Cnt, P.length = 1 ∧ (P ++ Q).Perm Z ∧ Srt P ∧ SWK encC 2 w0 blk off (X ++ P ++ (Q ++ Y)).toArray w) ∨ Z = [] := by
    cases Z with
    | nil => exact .inr rfl
    | cons z Z => exact .inl ⟨[z], Z, rfl, List.Perm.refl _, List.pairwise_singleton _ _, by simpa using S⟩
  have S00 := Lib.hid S
  have HC := Lib.hid C
  replace hNs := Lib.hid hNs
  replace hN := Lib.hid hN
  replace ha := Lib.hid ha
  replace hZl := Lib.hid hZl
  clear S C hb
  rcases S0 with S0 | S0
  rotate_left
  · have hl : b = a := by have := hZl.out; rw [S0] at this; simp at this; omega
    subst hl
    have fin : MergePost w0 blk off X Z Y (.returned (.tuple #[])) w := ⟨rfl, [], by rw [S0], List.Pairwise.nil, by have := S00.out; rw [S0] at this; exact this⟩
    replace fin := Lib.hid fin
    clear S0
    go_enter Tryz.func207, Tryz.ntmps207
    go_wp2
    go_loopg [8] (0) (fun g1 vi wr => ∃ i : Nat, vi = .int .i64 (i : Int) ∧ b < i ∧ wr = w)
    case atStart => exact ⟨b + 1, by simp, by omega, rfl⟩
    case round =>
      obtain ⟨i, rfl, hi, rfl⟩ := hrel
      have hd : ¬ i < b := by omega
      go_wp2
      go_end0
      exact fin.out
  have hab1 : a + 1 ≤ b := by
    obtain ⟨P, Q, h1, h2, _⟩ := S0.out
    have h3 := h2.length_eq
    have := hZl.out
    simp at h3; omega
  clear S00
  go_enter Tryz.func207, Tryz.ntmps207
  go_wp2
  go_loopg [8] (b - a) (fun g1 vi wr => ∃ (i : Nat), vi = .int .i64 (i : Int) ∧ a < i ∧ i ≤ b ∧ b - i ≤ g1 ∧ Hid (∃ P Q : List Cnt, P.length = i - a ∧ (P ++ Q).Perm Z ∧ Srt P ∧ SWK encC 2 w0 blk off (X ++ P ++ (Q ++ Y)).toArray wr))
  case atStart => exact ⟨a + 1, by simp, by omega, by omega, by omega, by rw [show a + 1 - a = 1 by omega]; exact S0⟩
  case round =>
    clear S0
    obtain ⟨i, rfl, hai, hib, hg1, hS⟩ := hrel
    obtain ⟨P, Q, hP, hZ, hs, S1⟩ := hS.out
    clear hS
    have hPQ : P.length + Q.length = b - a := by have := hZ.length_eq; rw [List.length_append, hZl.out] at this; exact this
    by_cases hlt : i < b
    · have hltz : (i : Int) < (b : Int) := by omega
      obtain ⟨u, Q, rfl⟩ : ∃ u Q', Q = u :: Q' := by
        cases Q with
        | nil => simp at hPQ; omega
        | cons u Q' => exact ⟨u, Q', rfl⟩
      have S2 : Hid (SWK encC 2 w0 blk off (X ++ (P.take (i - a) ++ u :: P.drop (i - a)) ++ (Q ++ Y)).toArray wr) := by
        rw [List.take_of_length_le (by omega), List.drop_of_length_le (by omega)]
        show SWK encC 2 w0 blk off _ _
        simpa using S1
      have hNN : X.length + P.length + 1 + Q.length + Y.length = N := by
        have h1 := hN.out; have h2 := hZl.out
        simp only [List.length_cons] at hPQ
        omega
      have hle := fun i j (h1 : i ≤ j) (h2 : j < P.length) => hs.le h1 h2
      replace hs := Lib.hid hs
      replace hle := Lib.hid hle
      replace hNN := Lib.hid hNN
      replace hP := Lib.hid hP
      replace hZ := Lib.hid hZ
      clear S1 hPQ
      go_wp2
      go_loopg [9] (i - a) (fun g2 vj wr2 => ∃ (k : Nat), vj = .int .i64 ((a + k : Nat) : Int) ∧ k ≤ i - a ∧ k ≤ g2 ∧ Hid (∀ t, k ≤ t → t < P.length → u.1 < (P[t]!).1) ∧ Hid (SWK encC 2 w0 blk off (X ++ (P.take k ++ u :: P.drop k) ++ (Q ++ Y)).toArray wr2))
      case atStart => exact ⟨i - a, by rw [show a + (i - a) = i by omega], Nat.le_refl _, Nat.le_refl _, fun t h1 h2 => absurd h2 (by have := hP.out; omega), S2⟩
      case round =>
        clear S2
        obtain ⟨k, rfl, hk, hg2, hgt, S2⟩ := hrel
        have hkP : k ≤ P.length := by have := hP.out; omega
        have fin : (∀ t, t < k → (P[t]!).1 ≤ u.1) → ∀ w3, SWK encC 2 w0 blk off (X ++ (P.take k ++ u :: P.drop k) ++ (Q ++ Y)).toArray w3 → Hid (∃ P Q : List Cnt, P.length = i + 1 - a ∧ (P ++ Q).Perm Z ∧ Srt P ∧ SWK encC 2 w0 blk off (X ++ P ++ (Q ++ Y)).toArray w3) := fun hlo w3 S3 =>
          ⟨P.take k ++ u :: P.drop k, Q, by have := (insert_perm P u k).length_eq; rw [this]; simp; have := hP.out; omega, by
            refine (List.Perm.append_right Q (insert_perm P u k)).trans (List.Perm.trans ?_ hZ.out)
            simpa using (List.perm_middle (a := u) (l₁ := P) (l₂ := Q)).symm, hs.out.insert (fun t h1 _ => hlo t h1) (fun t h1 h2 => Int.le_of_lt (hgt.out t h1 h2)), S3⟩
        replace fin := Lib.hid fin
        have hz : (X ++ (P.take k ++ u :: P.drop k) ++ (Q ++ Y)).toArray.size = d0.size := by rw [← hNs.out, ← hNN.out]; simp; omega
        by_cases hk0 : k = 0
        · subst hk0
          have S3 : Hid (∃ P Q : List Cnt, P.length = i + 1 - a ∧ (P ++ Q).Perm Z ∧ Srt P ∧ SWK encC 2 w0 blk off (X ++ P ++ (Q ++ Y)).toArray wr.drew) := fin.out (fun t ht => absurd ht (Nat.not_lt_zero t)) _ S2.out.drew
          clear S2 fin hgt hz
          obtain ⟨c, hca⟩ : ∃ c, c = a + 0 := ⟨_, rfl⟩
          rw [← hca]
          have hcN : ¬ a < c := by omega
          have hjaz : decide ((c : Int) > (a : Int)) = false := decide_eq_false (by omega)
          have hjaz' : ¬ (a : Int) < (c : Int) := by omega
          replace hca := Lib.hid hca
          go_wp2_with fail
          go_region
          all_goals go_wp2
          go_roundg (b - (i + 1))
          case measure => omega
          case rel => exact ⟨i + 1, by simp, by omega, by omega, Nat.le_refl _, S3⟩
        · obtain ⟨k, rfl⟩ : ∃ k', k = k' + 1 := ⟨k - 1, by omega⟩
          have hkk : a + k + 1 < N := by have := hNN.out; have := hP.out; have := ha.out; omega
          have hlen : (P.take (k + 1)).length = k + 1 := by rw [List.length_take]; omega
          obtain ⟨x, hx⟩ : ∃ x, x = P[k]! := ⟨_, rfl⟩
          have hu : u = (X ++ (P.take (k + 1) ++ u :: P.drop (k + 1)) ++ (Q ++ Y)).toArray[a + k + 1]! := by
            have := at_mid (X := X ++ P.take (k + 1)) (U := u :: P.drop (k + 1)) (Y := Q ++ Y) (k := a + k + 1) (i := 0) (by rw [List.length_append, hlen, ha.out]; omega) (by simp)
            have e : X ++ (P.take (k + 1) ++ u :: P.drop (k + 1)) ++ (Q ++ Y) = (X ++ P.take (k + 1)) ++ ((u :: P.drop (k + 1)) ++ (Q ++ Y)) := by simp
            rw [e, this]; rfl
          have hxx : x = (X ++ (P.take (k + 1) ++ u :: P.drop (k + 1)) ++ (Q ++ Y)).toArray[a + k]! := by
            have := at_mid (X := X) (U := P.take (k + 1)) (Y := u :: P.drop (k + 1) ++ (Q ++ Y)) (k := a + k) (i := k) (by rw [ha.out]) (by omega)
            have e : X ++ (P.take (k + 1) ++ u :: P.drop (k + 1)) ++ (Q ++ Y) = X ++ (P.take (k + 1) ++ (u :: P.drop (k + 1) ++ (Q ++ Y))) := by simp
            rw [e, this, hx, getElem!_pos P k (by omega), getElem!_pos (P.take (k + 1)) k (by omega), List.getElem_take]
          obtain ⟨c0, c1⟩ := swk_look S2.out HC.out.R hz (i := a + k + 1) (by rw [hz, ← hNs.out]; omega) (x := u) hu
          obtain ⟨d0', d1'⟩ := swk_look S2.out HC.out.R hz (i := a + k) (by rw [hz, ← hNs.out]; omega) (x := x) hxx
          have hc := swk_cmp S2.out HC.out hz u x
          have hdown := down_step (X := X) (V := P) (Y := Q ++ Y) (u := u) (k := k) (i := a + k + 1) (j := a + k) (by omega) (by rw [ha.out]) (by rw [ha.out])
          replace hu := Lib.hid hu
          replace hxx := Lib.hid hxx
          replace hdown := Lib.hid hdown
          replace hx := Lib.hid hx
          replace hz := Lib.hid hz
          rw [show a + (k + 1) = a + k + 1 by omega]
          obtain ⟨c, hca⟩ : ∃ c, c = a + k := ⟨_, rfl⟩
          rw [← hca] at c0 c1 d0' d1' hu hxx hdown hkk ⊢
          have g1 : decide (a < c + 1) = true := decide_eq_true (by omega)
          have g1' : (a : Int) < (c : Int) + 1 := by omega
          have g2 : (c : Int) < (N : Int) := by omega
          have g3 : (c : Int) + 1 < (N : Int) := by omega
          have g4 : ((c : Int) + 1).toNat = c + 1 := by omega
          have g5 : IntKind.i64.wrap ((c : Int)) = (c : Int) := by rw [IntKind.wrap_i64]; omega
          have g6 : (0 : Int) ≤ (c : Int) + 1 := by omega
          have g7 : IntKind.i64.wrap ((c : Int) + 1) = (c : Int) + 1 := by rw [IntKind.wrap_i64]; omega
          have ec : ((c + 1 : Nat) : Int) = (c : Int) + 1 := by omega
          rw [ec]
          replace hca := Lib.hid hca
          clear ec hkP hlen hk0
          by_cases hlv : cmpC u x < 0
          · have hlu := (cmpC_neg u x).1 hlv
            obtain ⟨cv, hcv⟩ : ∃ cv, cv = cmpC u x := ⟨_, rfl⟩
            rw [← hcv] at hc hlv
            replace hcv := Lib.hid hcv
            replace hlu := Lib.hid hlu
            go_wp2_with fail
            go_quiet_grown (first | (go_at_fn g; refine Calls.grown_of (hc _ _)))
            have S3 : Hid (SWK encC 2 w0 blk off (X ++ (P.take (k + 1) ++ u :: P.drop (k + 1)) ++ (Q ++ Y)).toArray (grow (wr.drewN nq) osq)) := S2.out.grown nq osq
            clear c0 c1 d0' d1' hc S2 fin
            generalize grow (wr.drewN nq) osq = w2 at S3 ⊢
            clear nq osq
            obtain ⟨⟨i0, j0⟩, ⟨i1, j1⟩⟩ := swk_cells S3.out HC.out.R hz.out (i := c) (by rw [hz.out, ← hNs.out]; omega)
            obtain ⟨⟨p0, q0⟩, ⟨p1, q1⟩⟩ := swk_cells S3.out HC.out.R hz.out (i := c + 1) (by rw [hz.out, ← hNs.out]; omega)
            have S4 := swk_swap S3.out HC.out.R (i := c + 1) (j := c) (by rw [hz.out, ← hNs.out]; omega) (by rw [hz.out, ← hNs.out]; omega) u x hu.out hxx.out
            rw [hdown.out] at S4
            rw [← hxx.out] at i0 i1
            rw [← hu.out] at p0 p1
            have t1 : ∀ w3 : World, w3 = (((w2.drew.setCell ⟨blk, off + (c + 1) * 2, none⟩ (.int .i64 x.1)).setCell ⟨blk, off + (c + 1) * 2 + 1, none⟩ (.int .u64 x.2)).setCell ⟨blk, off + c * 2, none⟩ (.int .i64 u.1)).setCell ⟨blk, off + c * 2 + 1, none⟩ (.int .u64 u.2) → Hid (SWK encC 2 w0 blk off (X ++ (P.take k ++ u :: P.drop k) ++ (Q ++ Y)).toArray w3) := by
              intro w3 h; subst h; exact S4
            replace t1 := Lib.hid t1
            have hgt2 : Hid (∀ t, k ≤ t → t < P.length → u.1 < (P[t]!).1) := fun t h1 h2 => by
              by_cases e : t = k
              · subst e; rw [← hx.out]; exact hlu.out
              · exact hgt.out t (by omega) h2
            clear S3 S4 hgt
            go_wp2_with fail
            go_region
            go_wp2
            go_roundg (k)
            case measure => omega
            case rel => exact ⟨k, by rw [← hca.out], by omega, Nat.le_refl _, hgt2, t1.out _ rfl⟩
          · have hlu : x.1 ≤ u.1 := by
              have := (cmpC_neg u x)
              omega
            have S3 := fun n os => fin.out (fun t ht => by
              have := hle.out t k (by omega) (by have := hP.out; omega)
              rw [← hx.out] at this
              omega) _ (S2.out.grown n os)
            obtain ⟨cv, hcv⟩ : ∃ cv, cv = cmpC u x := ⟨_, rfl⟩
            rw [← hcv] at hc hlv
            replace hcv := Lib.hid hcv
            replace hlu := Lib.hid hlu
            replace S3 := Lib.hid S3
            have hdv : decide (cv < 0) = false := decide_eq_false hlv
            clear hlv fin
            go_wp2_with fail
            go_quiet_grown (first | (go_at_fn g; refine Calls.grown_of (hc _ _)))
            have S4 := S3.out nq osq
            clear c0 c1 d0' d1' hc S2 S3 hgt
            generalize grow (wr.drewN nq) osq = w2 at S4 ⊢
            clear nq osq
            go_wp2_with fail
            go_roundg (b - (i + 1))
            case measure => omega
            case rel => exact ⟨i + 1, by simp, by omega, by omega, Nat.le_refl _, S4⟩
    · obtain rfl : i = b := by omega
      have hge : ¬ (i : Int) < (i : Int) := by omega
      have hQ : Q = [] := List.eq_nil_of_length_eq_zero (by omega)
      subst hQ
      have fin : MergePost w0 blk off X Z Y (.returned (.tuple #[])) wr := ⟨rfl, P, by simpa using hZ, hs, by simpa using S1⟩
      replace fin := Lib.hid fin
      clear hP hZ hs S1 hPQ
      go_wp2
      go_end0
      exact fin.out
end Go.Proofs.YtpiegngjpnpohaaGreat.St

namespace Go.Proofs.YtpiegngjpnpohaaGreat.St
open Go.RowKit Go.Sort Go.Shelf Go.Proofs Go.Lib
set_option linter.unusedVariables false
theorem parts3 (l : List Cnt) (a n : Nat) : l = l.take a ++ chunk l a n ++ l.drop (a + n) := by
  have := chunk_split l a n
  rwa [← List.append_assoc] at this
theorem parts4 (l : List Cnt) (a n m : Nat) : l = l.take a ++ (chunk l a n ++ chunk l (a + n) m) ++ l.drop (a + (n + m)) := by
  rw [← chunk_two]; exact parts3 l a (n + m)
structure Ini (t : Nat) (l0 L : List Cnt) : Prop where
  perm : L.Perm l0
  done : ∀ u, u < t → Srt (chunk L (u * 20) 20)
theorem Ini.step {t a : Nat} {l0 L W : List Cnt} (h : Ini t l0 L) (ha : a = t * 20) (hl : a + 20 ≤ L.length) (hW : W.Perm (chunk L a 20)) (hs : Srt W) : Ini (t + 1) l0 (L.take a ++ W ++ L.drop (a + 20)) := by
  have hWl : W.length = 20 := by rw [hW.length_eq, chunk_len hl]
  rw [List.append_assoc]
  refine ⟨(splice_perm hW).trans h.perm, fun u hu => ?_⟩
  by_cases hut : u < t
  · rw [chunk_before hWl hl (by omega)]; exact h.done u hut
  · obtain rfl : u = t := by omega
    rw [← ha, ← hWl, hWl, chunk_at hWl (by omega)]; exact hs
theorem Ini.last {t a k : Nat} {l0 L W : List Cnt} (h : Ini t l0 L) (ha : a = t * 20) (hk : L.length = a + k) (hk2 : k ≤ 20) (hW : W.Perm (chunk L a k)) (hs : Srt W) : (L.take a ++ W ++ L.drop (a + k)).Perm l0 ∧ BS 20 (L.take a ++ W ++ L.drop (a + k)) := by
  have hWl : W.length = k := by rw [hW.length_eq, chunk_len (by omega)]
  rw [List.append_assoc]
  have hlen := splice_len hW
  refine ⟨(splice_perm hW).trans h.perm, fun u => ?_⟩
  rcases Nat.lt_trichotomy u t with hut | hut | hut
  · rw [chunk_before hWl (by omega) (by omega)]; exact h.done u hut
  · subst hut
    rw [← ha, chunk_rest (by rw [hlen]; omega), hlen, show L.length - a = k by omega, chunk_at hWl (by omega)]; exact hs
  · rw [chunk_none (by rw [hlen]; omega)]; exact Srt.nil
structure Mid (bs t : Nat) (l0 L : List Cnt) : Prop where
  perm : L.Perm l0
  done : ∀ u, u < t → Srt (chunk L (u * (2 * bs)) (2 * bs))
  todo : ∀ u, 2 * t ≤ u → Srt (chunk L (u * bs) bs)
theorem Mid.start {bs : Nat} {l0 L : List Cnt} (hp : L.Perm l0) (h : BS bs L) : Mid bs 0 l0 L := ⟨hp, fun u hu => absurd hu (by omega), fun u _ => h u⟩
theorem Mid.parts {bs t a : Nat} {l0 L : List Cnt} (h : Mid bs t l0 L) (ha : a = t * (2 * bs)) : Srt (chunk L a bs) ∧ Srt (chunk L (a + bs) bs) := by
  have h1 := h.todo (2 * t) (by omega)
  have h2 := h.todo (2 * t + 1) (by omega)
  have e1 : 2 * t * bs = a := by rw [ha, Nat.mul_comm 2 t, Nat.mul_assoc]
  rw [Nat.add_mul, e1, Nat.one_mul] at h2
  rw [e1] at h1
  exact ⟨h1, h2⟩
theorem before {bs t u : Nat} (h : u < t) : u * (2 * bs) + 2 * bs ≤ t * (2 * bs) := by
  have := Nat.mul_le_mul_right (2 * bs) (show u + 1 ≤ t by omega)
  rwa [Nat.add_mul, Nat.one_mul] at this
theorem Mid.step {bs t a : Nat} {l0 L W : List Cnt} (h : Mid bs t l0 L) (ha : a = t * (2 * bs)) (hl : a + (bs + bs) ≤ L.length) (hW : W.Perm (chunk L a bs ++ chunk L (a + bs) bs)) (hs : Srt W) : Mid bs (t + 1) l0 (L.take a ++ W ++ L.drop (a + (bs + bs))) := by
  rw [← chunk_two] at hW
  have hWl : W.length = bs + bs := by rw [hW.length_eq, chunk_len hl]
  rw [List.append_assoc]
  refine ⟨(splice_perm hW).trans h.perm, fun u hu => ?_, fun u hu => ?_⟩
  · by_cases hut : u < t
    · rw [chunk_before hWl hl (by have := before (bs := bs) hut; omega)]; exact h.done u hut
    · obtain rfl : u = t := by omega
      have := chunk_at (l := L) (a := a) hWl (by omega)
      rw [← ha, Nat.two_mul, this]; exact hs
  · rw [chunk_behind hWl hl (by
      have := Nat.mul_le_mul_right bs hu
      rw [Nat.mul_add, Nat.add_mul, Nat.mul_one, Nat.mul_comm 2 t, Nat.mul_assoc, ← ha] at this; omega)]
    exact h.todo u (by omega)
theorem Mid.over {bs t a : Nat} {l0 L : List Cnt} (h : Mid bs t l0 L) (ha : a = t * (2 * bs)) (hl : L.length ≤ a + bs) : BS (2 * bs) L := by
  intro u
  rcases Nat.lt_trichotomy u t with hut | hut | hut
  · exact h.done u hut
  · subst hut
    rw [← ha, chunk_rest (by omega), ← chunk_rest hl]
    exact (h.parts ha).1
  · have := before (bs := bs) hut
    rw [chunk_none (by omega)]; exact Srt.nil
theorem Mid.last {bs t a k : Nat} {l0 L W : List Cnt} (h : Mid bs t l0 L) (ha : a = t * (2 * bs)) (hk : L.length = a + (bs + k)) (hk2 : k ≤ bs) (hW : W.Perm (chunk L a bs ++ chunk L (a + bs) k)) (hs : Srt W) :
    (L.take a ++ W ++ L.drop (a + (bs + k))).Perm l0 ∧ BS (2 * bs) (L.take a ++ W ++ L.drop (a + (bs + k))) := by
  rw [← chunk_two] at hW
  have hWl : W.length = bs + k := by rw [hW.length_eq, chunk_len (by omega)]
  rw [List.append_assoc]
  have hlen := splice_len hW
  refine ⟨(splice_perm hW).trans h.perm, fun u => ?_⟩
  rcases Nat.lt_trichotomy u t with hut | hut | hut
  · rw [chunk_before hWl (by omega) (by have := before (bs := bs) hut; omega)]; exact h.done u hut
  · subst hut
    rw [← ha, chunk_rest (by rw [hlen]; omega), hlen, show L.length - a = bs + k by omega, chunk_at hWl (by omega)]; exact hs
  · have := before (bs := bs) hut
    rw [chunk_none (by rw [hlen]; omega)]; exact Srt.nil
def SortPost (w0 : World) (blk off : Nat) (l : List Cnt) (e : Ending) (w' : World) : Prop := e = .returned (.tuple #[]) ∧ ∃ L : List Cnt, L.Perm l ∧ Srt L ∧ SWK encC 2 w0 blk off L.toArray w'
set_option maxRecDepth 100000 in
set_option maxHeartbeats 4000000 in
theorem stable_any (w0 w : World) (blk off cap g : Nat) (d0 : Array Cnt) (l : List Cnt) (C : RowC w0 blk off d0 g) (hN : d0.size = l.length) (hs : d0.size < 1152921504606846976)
    (S : SWK encC 2 w0 blk off l.toArray w) :
    Calls Tryz.prog 195 #[.slice (some ⟨blk, off, none⟩) d0.size cap, .int .i64 d0.size, .func (.func g) #[] #[]] w (SortPost w0 blk off l) := by
  have ins := fun (w : World) (a b : Nat) (X Z Y : List Cnt) => insertion_any w0 w blk off cap a b g d0 X Z Y C
  have mrg := fun (w : World) (a m b : Nat) (X U V Y : List Cnt) => merge_any w0 blk off cap g d0 C (b - a + 1) w a m b X U V Y (by omega)
  obtain ⟨N, hNs⟩ : ∃ N, N = d0.size := ⟨_, rfl⟩
  rw [← hNs] at hN hs ins mrg ⊢
  have hNI : (N : Int) < 1152921504606846976 := by omega
  replace hN := Lib.hid hN
  replace ins := Lib.hid ins
  replace mrg := Lib.hid mrg
  have S0 := Lib.hid S
  clear S C hNs
  go_enter Tryz.func195, Tryz.ntmps195
  go_wp2
  go_loopg [7, 8] (N) (fun kx s7 s8 wr => ∃ (t a : Nat), s7 = .int .i64 (a : Int) ∧ s8 = .int .i64 ((a : Int) + 20) ∧ a ≤ N ∧ N - a ≤ kx ∧ Hid (a = t * 20 ∧ ∃ L, L.length = N ∧ Ini t l L ∧ SWK encC 2 w0 blk off L.toArray wr))
  case atStart => exact ⟨0, 0, rfl, by simp, Nat.zero_le _, by omega, by simp, l, hN.out.symm, ⟨List.Perm.refl _, fun u hu => absurd hu (by omega)⟩, S0.out⟩
  case round =>
    clear S0
    obtain ⟨t, a, rfl, rfl, haN, hkx, hall⟩ := hrel
    obtain ⟨hat, L, hL, hI, S1⟩ := hall.out
    clear hall
    by_cases hb : a + 20 ≤ N
    · have hbI : (a : Int) + 20 ≤ (N : Int) := by omega
      have c := ins.out wr a (a + 20) (L.take a) (chunk L a 20) (L.drop (a + 20)) (by rw [List.length_take]; omega) (by rw [List.length_take, chunk_len (by omega)]; omega) (by rw [List.length_take, chunk_len (by omega), List.length_drop]; omega) (by rw [← parts3]; exact S1)
      have e1 : ((a + 20 : Nat) : Int) = (a : Int) + 20 := by omega
      rw [e1] at c
      have nx : ∀ W, W.Perm (chunk L a 20) → Srt W → ∀ w1, SWK encC 2 w0 blk off (L.take a ++ W ++ L.drop (a + 20)).toArray w1 → Hid (a + 20 = (t + 1) * 20 ∧ ∃ L, L.length = N ∧ Ini (t + 1) l L ∧ SWK encC 2 w0 blk off L.toArray w1) := fun W h1 h2 w1 S2 =>
        ⟨by omega, _, by rw [List.append_assoc, splice_len h1, hL], hI.step hat (by omega) h1 h2, S2⟩
      replace nx := Lib.hid nx
      replace hat := Lib.hid hat
      replace hL := Lib.hid hL
      replace hI := Lib.hid hI
      replace c := Lib.hid c
      clear S1 ins mrg
      go_wp2_with fail
      refine c.out.mono ?_
      rintro e w1 ⟨rfl, W, hW, hWs, S2⟩
      have S3 := nx.out W hW hWs w1 S2
      clear S2 c nx hW hWs
      go_wp2
      go_roundg (N - (a + 20))
      case measure => omega
      case rel => exact ⟨t + 1, a + 20, rfl, by simp, hb, Nat.le_refl _, S3⟩
    · have hbI : ¬ (a : Int) + 20 ≤ (N : Int) := by omega
      obtain ⟨k, hk⟩ : ∃ k, k = N - a := ⟨_, rfl⟩
      have c := ins.out wr a N (L.take a) (chunk L a k) (L.drop (a + k)) (by rw [List.length_take]; omega) (by rw [List.length_take, chunk_len (by omega)]; omega) (by rw [List.length_take, chunk_len (by omega), List.length_drop]; omega) (by rw [← parts3]; exact S1)
      have nx : ∀ W, W.Perm (chunk L a k) → Srt W → ∀ w1, SWK encC 2 w0 blk off (L.take a ++ W ++ L.drop (a + k)).toArray w1 → Hid (∃ L, L.length = N ∧ L.Perm l ∧ BS 20 L ∧ SWK encC 2 w0 blk off L.toArray w1) := fun W h1 h2 w1 S2 => by
        obtain ⟨i1, i2⟩ := hI.last hat (by omega) (by omega) h1 h2
        exact ⟨_, by rw [List.append_assoc, splice_len h1, hL], i1, i2, S2⟩
      replace nx := Lib.hid nx
      replace c := Lib.hid c
      clear S1 ins hat hL hI hkx hk
      go_wp2_with fail
      refine c.out.mono ?_
      rintro e w1 ⟨rfl, W, hW, hWs, S2⟩
      have S3 := nx.out W hW hWs w1 S2
      clear S2 c nx hW hWs
      go_wp2_with fail
      go_loopg [6, 7, 8, 9] (N) (fun kx s6 s7 s8 s9 wr => ∃ (bs : Nat), s6 = .int .i64 (bs : Int) ∧ 0 < bs ∧ bs < 2305843009213693952 ∧ N - bs ≤ kx ∧ Hid (∃ L, L.length = N ∧ L.Perm l ∧ BS bs L ∧ SWK encC 2 w0 blk off L.toArray wr))
      case atStart => exact ⟨20, rfl, by omega, by omega, by omega, S3⟩
      case round =>
        clear S3 W hb hbI k w1
        obtain ⟨bs, rfl, hbs, hbz, hkx, hall⟩ := hrel
        by_cases hlt : bs < N
        · have hltI : (bs : Int) < (N : Int) := by omega
          have hst : Hid (0 = 0 * (2 * bs) ∧ ∃ L, L.length = N ∧ Mid bs 0 l L ∧ SWK encC 2 w0 blk off L.toArray wr) := by
            obtain ⟨L, h1, h2, h3, h4⟩ := hall.out
            exact ⟨by simp, L, h1, Mid.start h2 h3, h4⟩
          clear hall
          go_wp2_with fail
          go_loopg [7, 8] (N) (fun kx s7 s8 wr => ∃ (t a : Nat), s7 = .int .i64 (a : Int) ∧ s8 = .int .i64 ((a : Int) + 2 * (bs : Int)) ∧ a ≤ N ∧ N - a ≤ kx ∧ Hid (a = t * (2 * bs) ∧ ∃ L, L.length = N ∧ Mid bs t l L ∧ SWK encC 2 w0 blk off L.toArray wr))
          case atStart => exact ⟨0, 0, rfl, by simp, Nat.zero_le _, by omega, hst⟩
          case round =>
            clear hst
            obtain ⟨t, a, rfl, rfl, haN, hkx2, hall⟩ := hrel
            obtain ⟨hat, L, hL, hI, S1⟩ := hall.out
            clear hall
            obtain ⟨p1, p2⟩ := hI.parts hat
            by_cases hb : a + 2 * bs ≤ N
            · have hbI : (a : Int) + 2 * (bs : Int) ≤ (N : Int) := by omega
              have c := mrg.out wr a (a + bs) (a + 2 * bs) (L.take a) (chunk L a bs) (chunk L (a + bs) bs) (L.drop (a + (bs + bs)))
                (by rw [List.length_take]; omega) (by rw [List.length_take, chunk_len (by omega)]; omega) (by rw [List.length_take, chunk_len (by omega), chunk_len (by omega)]; omega) (by rw [chunk_len (by omega)]; omega) (by rw [chunk_len (by omega)]; omega)
                (by rw [List.length_take, chunk_len (by omega), chunk_len (by omega), List.length_drop]; omega) p1 p2 (by rw [← parts4]; exact S1)
              have e1 : ((a + bs : Nat) : Int) = (a : Int) + bs := by omega
              have e2 : ((a + 2 * bs : Nat) : Int) = (a : Int) + 2 * bs := by omega
              rw [e1, e2] at c
              have nx : ∀ W, W.Perm (chunk L a bs ++ chunk L (a + bs) bs) → Srt W → ∀ w1, SWK encC 2 w0 blk off (L.take a ++ W ++ L.drop (a + (bs + bs))).toArray w1 → Hid (a + 2 * bs = (t + 1) * (2 * bs) ∧ ∃ L, L.length = N ∧ Mid bs (t + 1) l L ∧ SWK encC 2 w0 blk off L.toArray w1) := fun W h1 h2 w1 S2 =>
                ⟨by rw [Nat.add_mul, Nat.one_mul, hat], _, by rw [List.append_assoc, splice_len (by rw [chunk_two]; exact h1), hL], hI.step hat (by omega) h1 h2, S2⟩
              replace nx := Lib.hid nx
              replace hat := Lib.hid hat
              replace hL := Lib.hid hL
              replace hI := Lib.hid hI
              replace c := Lib.hid c
              clear S1 mrg p1 p2
              go_wp2_with fail
              refine c.out.mono ?_
              rintro e w1 ⟨rfl, W, hW, hWs, S2⟩
              have S3 := nx.out W hW hWs w1 S2
              clear S2 c nx hW hWs
              go_wp2
              go_roundg (N - (a + 2 * bs))
              case measure => omega
              case rel => exact ⟨t + 1, a + 2 * bs, by rw [e2], by rw [e2], hb, Nat.le_refl _, S3⟩
            · have hbI : ¬ (a : Int) + 2 * (bs : Int) ≤ (N : Int) := by omega
              by_cases hm : a + bs < N
              · have hmI : (a : Int) + (bs : Int) < (N : Int) := by omega
                obtain ⟨k, hk⟩ : ∃ k, k = N - (a + bs) := ⟨_, rfl⟩
                have p3 : Srt (chunk L (a + bs) k) := by
                  rw [chunk_rest (by omega)] at p2
                  rwa [hk, ← hL]
                have c := mrg.out wr a (a + bs) N (L.take a) (chunk L a bs) (chunk L (a + bs) k) (L.drop (a + (bs + k)))
                  (by rw [List.length_take]; omega) (by rw [List.length_take, chunk_len (by omega)]; omega) (by rw [List.length_take, chunk_len (by omega), chunk_len (by omega)]; omega) (by rw [chunk_len (by omega)]; omega) (by rw [chunk_len (by omega)]; omega)
                  (by rw [List.length_take, chunk_len (by omega), chunk_len (by omega), List.length_drop]; omega) p1 p3 (by rw [← parts4]; exact S1)
                have e1 : ((a + bs : Nat) : Int) = (a : Int) + bs := by omega
                rw [e1] at c
                have nx : ∀ W, W.Perm (chunk L a bs ++ chunk L (a + bs) k) → Srt W → ∀ w1, SWK encC 2 w0 blk off (L.take a ++ W ++ L.drop (a + (bs + k))).toArray w1 → Hid (∃ L, L.length = N ∧ L.Perm l ∧ BS (2 * bs) L ∧ SWK encC 2 w0 blk off L.toArray w1) := fun W h1 h2 w1 S2 => by
                  obtain ⟨i1, i2⟩ := hI.last hat (by omega) (by omega) h1 h2
                  exact ⟨_, by rw [List.append_assoc, splice_len (by rw [chunk_two]; exact h1), hL], i1, i2, S2⟩
                replace nx := Lib.hid nx
                replace c := Lib.hid c
                clear S1 mrg p1 p2 p3 hat hL hI hk
                go_wp2_with fail
                refine c.out.mono ?_
                rintro e w1 ⟨rfl, W, hW, hWs, S2⟩
                have S3 := nx.out W hW hWs w1 S2
                clear S2 c nx hW hWs
                go_wp2
                go_roundg (N - 2 * bs)
                case measure => omega
                case rel => exact ⟨2 * bs, by simp; omega, by omega, by omega, Nat.le_refl _, S3⟩
              · have hmI : ¬ (a : Int) + (bs : Int) < (N : Int) := by omega
                have S3 : Hid (∃ L, L.length = N ∧ L.Perm l ∧ BS (2 * bs) L ∧ SWK encC 2 w0 blk off L.toArray wr) := ⟨L, hL, hI.perm, hI.over hat (by omega), S1⟩
                clear S1 mrg p1 p2 hat hL hI
                go_wp2
                go_roundg (N - 2 * bs)
                case measure => omega
                case rel => exact ⟨2 * bs, by simp; omega, by omega, by omega, Nat.le_refl _, S3⟩
        · have hltI : ¬ (bs : Int) < (N : Int) := by omega
          have fin : SortPost w0 blk off l (.returned (.tuple #[])) wr := by
            obtain ⟨L, h1, h2, h3, h4⟩ := hall.out
            exact ⟨rfl, L, h2, Srt.all h3 (by omega), h4⟩
          replace fin := Lib.hid fin
          clear hall
          go_wp2
          go_end0
          exact fin.out
theorem sort_stable (w0 w : World) (blk off cap g : Nat) (d0 : Array Cnt) (l : List Cnt) (C : RowC w0 blk off d0 g) (hN : d0.size = l.length) (hs : d0.size < 1152921504606846976)
    (S : SWK encC 2 w0 blk off l.toArray w) :
    Calls Tryz.prog 163 #[.slice (some ⟨blk, off, none⟩) d0.size cap, .func (.func g) #[] #[]] w (SortPost w0 blk off l) := by
  have c := stable_any w0 w blk off cap g d0 l C hN hs S
  clear C S
  obtain ⟨N, hNs⟩ : ∃ N, N = d0.size := ⟨_, rfl⟩
  rw [← hNs] at c hs ⊢
  replace c := Lib.hid c
  clear hN hNs
  go_enter Tryz.func163, Tryz.ntmps163
  go_wp2_with fail
  refine c.out.mono ?_
  rintro e w1 ⟨rfl, h⟩
  replace h := Lib.hid h
  clear c
  go_wp2
  go_end0
  exact ⟨rfl, h.out⟩
end Go.Proofs.YtpiegngjpnpohaaGreat.St

namespace Go.Proofs.YtpiegngjpnpohaaGreat.Mg
open Go.RowKit Go.Shelf Go.Sort Go.Proofs Go.Lib Go.Proofs.YtpiegngjpnpohaaGreat.Sl Go.Proofs.YtpiegngjpnpohaaGreat.Rk Go.Proofs.YtpiegngjpnpohaaGreat.St
set_option linter.unusedVariables false
def SortedPost (w : World) (base : Nat) (A : Option Addr) (l : List Cnt) (e : Ending) (w' : World) : Prop :=
  e = .returned (.tuple #[]) ∧ ∃ L : List Cnt, L.Perm l ∧ Srt L ∧ Rd w' w'.heap.size 2 A (flat L) L.length ∧ RowKit.Below base w w'
theorem insertion_none (w : World) : Calls Tryz.prog 207 #[.slice none 0 0, .int .i64 0, .int .i64 0, .func (.func 164) #[] #[]] w fun e w' => e = .returned (.tuple #[]) ∧ w = w' := by
  go_enter Tryz.func207, Tryz.ntmps207
  go_wp2
  go_loopg [8] (0) (fun kx i wr => i = .int .i64 1 ∧ wr = w)
  case atStart => exact ⟨by simp, rfl⟩
  case round =>
    obtain ⟨rfl, hw⟩ := hrel
    obtain rfl := hw.symm
    clear hw
    go_wp2
    go_end0
    exact ⟨rfl, rfl⟩
theorem stable_none (w : World) : Calls Tryz.prog 195 #[.slice none 0 0, .int .i64 0, .func (.func 164) #[] #[]] w fun e w' => e = .returned (.tuple #[]) ∧ w = w' := by
  have ins := insertion_none w
  go_enter Tryz.func195, Tryz.ntmps195
  go_wp2
  go_loopg [7, 8] (0) (fun kx s7 s8 wr => s7 = .int .i64 0 ∧ s8 = .int .i64 20 ∧ wr = w)
  case atStart => exact ⟨rfl, by simp, rfl⟩
  case round =>
    obtain ⟨rfl, rfl, hw⟩ := hrel
    obtain rfl := hw.symm
    clear hw
    go_wp2_with (refine ins.mono ?_; rintro e w' ⟨rfl, rfl⟩)
    go_loopg [6] (0) (fun kx i wr => i = .int .i64 20 ∧ wr = w)
    case atStart => exact ⟨rfl, rfl⟩
    case round =>
      obtain ⟨rfl, hw⟩ := hrel
      obtain rfl := hw.symm
      clear hw
      go_wp2
      go_end0
      exact ⟨rfl, rfl⟩
theorem sort_none (w : World) : Calls Tryz.prog 163 #[.slice none 0 0, .func (.func 164) #[] #[]] w fun e w' => e = .returned (.tuple #[]) ∧ w = w' := by
  have ins := stable_none w
  go_enter Tryz.func163, Tryz.ntmps163
  go_wp2_with (refine ins.mono ?_; rintro e w' ⟨rfl, rfl⟩)
  go_end0
  exact ⟨rfl, rfl⟩
theorem sort_any (w : World) (base : Nat) (A : Option Addr) (l : List Cnt) (cap : Nat) (h : w.ownsRow base 54 2 (.slice A l.length cap) l.length (flat l)) (hb : base ≤ w.heap.size) (hs : l.length ≤ 4194304) :
    Calls Tryz.prog 163 #[.slice A l.length cap, .func (.func 164) #[] #[]] w (SortedPost w base A l) := by
  rcases h.2 with ⟨h1, h2⟩ | ⟨g, cap', cur, h1, h2, _⟩
  · obtain rfl : l = [] := List.eq_nil_of_length_eq_zero h2
    cases h1
    refine (sort_none w).mono ?_
    rintro e w' ⟨rfl, rfl⟩
    exact ⟨rfl, [], List.Perm.refl _, List.Pairwise.nil, Rd.nil _ _ _ _, RowKit.Below.refl _ _⟩
  · cases h1
    have C := rowC_of_own h (by omega)
    have e0 : l.toArray.size = l.length := by simp
    have c := sort_stable w w g 0 cap 164 l.toArray l C e0 (by rw [e0]; omega) (SWK.start C.1.hH)
    rw [e0] at c
    refine c.mono ?_
    rintro e w' ⟨rfl, L, p, s, S⟩
    have hg := (h.lt g rfl).1
    refine ⟨rfl, L, p, s, ?_, below_swk S hg hb⟩
    exact rd_of_swk S C.1 (by rw [e0]; exact p.length_eq)
theorem clp_last {L : List Cnt} (hs : Srt L) {k : Nat} (hk : k < L.length) : (k = 0 ∧ clp (L.take k) = []) ∨ ∃ r j n, clp (L.take k) = r ++ [(j, n)] ∧ 0 < k ∧ ∃ m, L[k - 1]? = some (j, m) := by
  rcases Nat.eq_zero_or_pos k with rfl | h0
  · exact .inl ⟨rfl, by simp [clp]⟩
  · right
    have h3 := (clp_rise (L.take k) (Srt.take hs k)).2.2
    rw [List.getLast?_take, if_neg (by omega)] at h3
    obtain ⟨m, hm⟩ : ∃ m, L[k - 1]? = some m := ⟨_, List.getElem?_eq_getElem (by omega)⟩
    rw [hm] at h3
    simp only [Option.or, Option.map_some] at h3
    rcases List.eq_nil_or_concat (clp (L.take k)) with e | ⟨r, d, e⟩
    · rw [e] at h3; simp at h3
    · rw [List.concat_eq_append] at e
      rw [e, List.getLast?_concat] at h3
      simp at h3
      exact ⟨r, d.1, d.2, e, h0, m.2, by rw [hm, h3]⟩
theorem stp_len (o : List Cnt) (c : Cnt) : (stp o c).length ≤ o.length + 1 := by
  unfold stp
  rcases List.eq_nil_or_concat o with rfl | ⟨r, d, rfl⟩
  · simp
  · rw [List.concat_eq_append, List.getLast?_concat]
    simp only
    split <;> simp
theorem clp_len (l : List Cnt) : (clp l).length ≤ l.length := by
  refine snoc_cases (p := fun l => (clp l).length ≤ l.length) (Nat.le_refl _) (fun s c ih => ?_) l
  rw [clp_snoc]
  have := stp_len (clp s) c
  simp; omega
theorem okC_okN {l : List Cnt} (h : ∀ c ∈ l, okC c) : okN l := fun c hc => by
  have := h c hc
  unfold okC at this
  simp only [two64]; omega
theorem okC_clp {L : List Cnt} (hs : Srt L) (h : ∀ c ∈ L, okC c) : ∀ c ∈ clp L, okC c := by
  intro c hc
  have h1 := okN_clp L (okC_okN h) c hc
  obtain ⟨d, hd, e⟩ := (clp_rise L hs).2.1 c hc
  have h2 := h d hd
  unfold okC at *
  simp only [two64] at h1
  omega
def MrgPost (w : World) (l : List Cnt) (e : Ending) (w' : World) : Prop :=
  ∃ A c, e = .returned (.slice A l.length c) ∧ w'.ownsRow w.heap.size 54 2 (.slice A l.length c) l.length (flat l) ∧ RowKit.Below w.heap.size w w'
end Go.Proofs.YtpiegngjpnpohaaGreat.Mg
