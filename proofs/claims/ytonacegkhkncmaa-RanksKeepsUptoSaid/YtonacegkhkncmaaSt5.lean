/- Go's stable sorting at counts: by insertion. -/
import Derived.Test.YtonacegkhkncmaaSt2
namespace Go.Proofs.Ytonacegkhkncmaa.St
open Go.RowKit Go.Sort Go.Shelf Go.Proofs Go.Lib
set_option linter.unusedVariables false

set_option maxRecDepth 100000 in
set_option maxHeartbeats 4000000 in
theorem insertion_any (w0 w : World) (blk off cap a b g : Nat) (d0 : Array Cnt) (X Z Y : List Cnt) (C : RowC w0 blk off d0 g) (ha : a = X.length) (hb : b = X.length + Z.length) (hN : d0.size = X.length + Z.length + Y.length)
    (S : SWK encC 2 w0 blk off (X ++ Z ++ Y).toArray w) :
    Calls Try.prog 64 #[.slice (some ⟨blk, off, none⟩) d0.size cap, .int .i64 a, .int .i64 b, .func (.func g) #[] #[]] w (MergePost w0 blk off X Z Y) := by
  obtain ⟨N, hNs⟩ : ∃ N, N = d0.size := ⟨_, rfl⟩
  have hsz := C.small
  rw [← hNs] at hN hsz ⊢
  have hNI : (N : Int) < 4611686018427387904 := by omega
  have hab : a ≤ b := by omega
  have hbN : b ≤ N := by omega
  have hZl : Z.length = b - a := by omega
  have eg := C.eg
  have mixed : Try.prog.follows .mixedOrders = true := by kernel_rfl
  have S0 : Hid (∃ P Q : List Cnt, P.length = 1 ∧ (P ++ Q).Perm Z ∧ Srt P ∧ SWK encC 2 w0 blk off (X ++ P ++ (Q ++ Y)).toArray w) ∨ Z = [] := by
    cases Z with
    | nil => exact .inr rfl
    | cons z Z => exact .inl ⟨[z], Z, rfl, List.Perm.refl _, List.pairwise_singleton _ _, by simpa using S⟩
  have S00 := Lib.hid S
  have HC := Lib.hid C
  replace hNs := Lib.hid hNs
  replace hN := Lib.hid hN
  replace ha := Lib.hid ha
  replace hZl := Lib.hid hZl
  clear S C hb
  rcases S0 with S0 | S0
  rotate_left
  · have hl : b = a := by have := hZl.out; rw [S0] at this; simp at this; omega
    subst hl
    have fin : MergePost w0 blk off X Z Y (.returned (.tuple #[])) w := ⟨rfl, [], by rw [S0], List.Pairwise.nil, by have := S00.out; rw [S0] at this; exact this⟩
    replace fin := Lib.hid fin
    clear S0
    go_enter Try.func64, Try.ntmps64
    go_wp2
    go_loopg [8] (0) (fun g1 vi wr => ∃ i : Nat, vi = .int .i64 (i : Int) ∧ b < i ∧ wr = w)
    case atStart => exact ⟨b + 1, by simp, by omega, rfl⟩
    case round =>
      obtain ⟨i, rfl, hi, rfl⟩ := hrel
      have hd : ¬ i < b := by omega
      go_wp2
      go_end0
      exact fin.out
  have hab1 : a + 1 ≤ b := by
    obtain ⟨P, Q, h1, h2, _⟩ := S0.out
    have h3 := h2.length_eq
    have := hZl.out
    simp at h3; omega
  clear S00
  go_enter Try.func64, Try.ntmps64
  go_wp2
  go_loopg [8] (b - a) (fun g1 vi wr => ∃ (i : Nat), vi = .int .i64 (i : Int) ∧ a < i ∧ i ≤ b ∧ b - i ≤ g1 ∧ Hid (∃ P Q : List Cnt, P.length = i - a ∧ (P ++ Q).Perm Z ∧ Srt P ∧ SWK encC 2 w0 blk off (X ++ P ++ (Q ++ Y)).toArray wr))
  case atStart => exact ⟨a + 1, by simp, by omega, by omega, by omega, by rw [show a + 1 - a = 1 by omega]; exact S0⟩
  case round =>
    clear S0
    obtain ⟨i, rfl, hai, hib, hg1, hS⟩ := hrel
    obtain ⟨P, Q, hP, hZ, hs, S1⟩ := hS.out
    clear hS
    have hPQ : P.length + Q.length = b - a := by have := hZ.length_eq; rw [List.length_append, hZl.out] at this; exact this
    by_cases hlt : i < b
    · have hltz : (i : Int) < (b : Int) := by omega
      obtain ⟨u, Q, rfl⟩ : ∃ u Q', Q = u :: Q' := by
        cases Q with
        | nil => simp at hPQ; omega
        | cons u Q' => exact ⟨u, Q', rfl⟩
      have S2 : Hid (SWK encC 2 w0 blk off (X ++ (P.take (i - a) ++ u :: P.drop (i - a)) ++ (Q ++ Y)).toArray wr) := by
        rw [List.take_of_length_le (by omega), List.drop_of_length_le (by omega)]
        show SWK encC 2 w0 blk off _ _
        simpa using S1
      have hNN : X.length + P.length + 1 + Q.length + Y.length = N := by
        have h1 := hN.out; have h2 := hZl.out
        simp only [List.length_cons] at hPQ
        omega
      have hle := fun i j (h1 : i ≤ j) (h2 : j < P.length) => hs.le h1 h2
      replace hs := Lib.hid hs
      replace hle := Lib.hid hle
      replace hNN := Lib.hid hNN
      replace hP := Lib.hid hP
      replace hZ := Lib.hid hZ
      clear S1 hPQ
      go_wp2
      go_loopg [9] (i - a) (fun g2 vj wr2 => ∃ (k : Nat), vj = .int .i64 ((a + k : Nat) : Int) ∧ k ≤ i - a ∧ k ≤ g2 ∧ Hid (∀ t, k ≤ t → t < P.length → u.1 < (P[t]!).1) ∧ Hid (SWK encC 2 w0 blk off (X ++ (P.take k ++ u :: P.drop k) ++ (Q ++ Y)).toArray wr2))
      case atStart => exact ⟨i - a, by rw [show a + (i - a) = i by omega], Nat.le_refl _, Nat.le_refl _, fun t h1 h2 => absurd h2 (by have := hP.out; omega), S2⟩
      case round =>
        clear S2
        obtain ⟨k, rfl, hk, hg2, hgt, S2⟩ := hrel
        have hkP : k ≤ P.length := by have := hP.out; omega
        have fin : (∀ t, t < k → (P[t]!).1 ≤ u.1) → ∀ w3, SWK encC 2 w0 blk off (X ++ (P.take k ++ u :: P.drop k) ++ (Q ++ Y)).toArray w3 → Hid (∃ P Q : List Cnt, P.length = i + 1 - a ∧ (P ++ Q).Perm Z ∧ Srt P ∧ SWK encC 2 w0 blk off (X ++ P ++ (Q ++ Y)).toArray w3) := fun hlo w3 S3 =>
          ⟨P.take k ++ u :: P.drop k, Q, by have := (insert_perm P u k).length_eq; rw [this]; simp; have := hP.out; omega, by
            refine (List.Perm.append_right Q (insert_perm P u k)).trans (List.Perm.trans ?_ hZ.out)
            simpa using (List.perm_middle (a := u) (l₁ := P) (l₂ := Q)).symm, hs.out.insert (fun t h1 _ => hlo t h1) (fun t h1 h2 => Int.le_of_lt (hgt.out t h1 h2)), S3⟩
        replace fin := Lib.hid fin
        have hz : (X ++ (P.take k ++ u :: P.drop k) ++ (Q ++ Y)).toArray.size = d0.size := by rw [← hNs.out, ← hNN.out]; simp; omega
        by_cases hk0 : k = 0
        · subst hk0
          have S3 : Hid (∃ P Q : List Cnt, P.length = i + 1 - a ∧ (P ++ Q).Perm Z ∧ Srt P ∧ SWK encC 2 w0 blk off (X ++ P ++ (Q ++ Y)).toArray wr.drew) := fin.out (fun t ht => absurd ht (Nat.not_lt_zero t)) _ S2.out.drew
          clear S2 fin hgt hz
          obtain ⟨c, hca⟩ : ∃ c, c = a + 0 := ⟨_, rfl⟩
          rw [← hca]
          have hcN : ¬ a < c := by omega
          have hjaz : decide ((c : Int) > (a : Int)) = false := decide_eq_false (by omega)
          have hjaz' : ¬ (a : Int) < (c : Int) := by omega
          replace hca := Lib.hid hca
          go_wp2_with fail
          go_region
          all_goals go_wp2
          go_roundg (b - (i + 1))
          case measure => omega
          case rel => exact ⟨i + 1, by simp, by omega, by omega, Nat.le_refl _, S3⟩
        · obtain ⟨k, rfl⟩ : ∃ k', k = k' + 1 := ⟨k - 1, by omega⟩
          have hkk : a + k + 1 < N := by have := hNN.out; have := hP.out; have := ha.out; omega
          have hlen : (P.take (k + 1)).length = k + 1 := by rw [List.length_take]; omega
          obtain ⟨x, hx⟩ : ∃ x, x = P[k]! := ⟨_, rfl⟩
          have hu : u = (X ++ (P.take (k + 1) ++ u :: P.drop (k + 1)) ++ (Q ++ Y)).toArray[a + k + 1]! := by
            have := at_mid (X := X ++ P.take (k + 1)) (U := u :: P.drop (k + 1)) (Y := Q ++ Y) (k := a + k + 1) (i := 0) (by rw [List.length_append, hlen, ha.out]; omega) (by simp)
            have e : X ++ (P.take (k + 1) ++ u :: P.drop (k + 1)) ++ (Q ++ Y) = (X ++ P.take (k + 1)) ++ ((u :: P.drop (k + 1)) ++ (Q ++ Y)) := by simp
            rw [e, this]; rfl
          have hxx : x = (X ++ (P.take (k + 1) ++ u :: P.drop (k + 1)) ++ (Q ++ Y)).toArray[a + k]! := by
            have := at_mid (X := X) (U := P.take (k + 1)) (Y := u :: P.drop (k + 1) ++ (Q ++ Y)) (k := a + k) (i := k) (by rw [ha.out]) (by omega)
            have e : X ++ (P.take (k + 1) ++ u :: P.drop (k + 1)) ++ (Q ++ Y) = X ++ (P.take (k + 1) ++ (u :: P.drop (k + 1) ++ (Q ++ Y))) := by simp
            rw [e, this, hx, getElem!_pos P k (by omega), getElem!_pos (P.take (k + 1)) k (by omega), List.getElem_take]
          obtain ⟨c0, c1⟩ := swk_look S2.out HC.out.R hz (i := a + k + 1) (by rw [hz, ← hNs.out]; omega) (x := u) hu
          obtain ⟨d0', d1'⟩ := swk_look S2.out HC.out.R hz (i := a + k) (by rw [hz, ← hNs.out]; omega) (x := x) hxx
          have hc := swk_cmp S2.out HC.out hz u x
          have hdown := down_step (X := X) (V := P) (Y := Q ++ Y) (u := u) (k := k) (i := a + k + 1) (j := a + k) (by omega) (by rw [ha.out]) (by rw [ha.out])
          replace hu := Lib.hid hu
          replace hxx := Lib.hid hxx
          replace hdown := Lib.hid hdown
          replace hx := Lib.hid hx
          replace hz := Lib.hid hz
          rw [show a + (k + 1) = a + k + 1 by omega]
          obtain ⟨c, hca⟩ : ∃ c, c = a + k := ⟨_, rfl⟩
          rw [← hca] at c0 c1 d0' d1' hu hxx hdown hkk ⊢
          have g1 : decide (a < c + 1) = true := decide_eq_true (by omega)
          have g1' : (a : Int) < (c : Int) + 1 := by omega
          have g2 : (c : Int) < (N : Int) := by omega
          have g3 : (c : Int) + 1 < (N : Int) := by omega
          have g4 : ((c : Int) + 1).toNat = c + 1 := by omega
          have g5 : IntKind.i64.wrap ((c : Int)) = (c : Int) := by rw [IntKind.wrap_i64]; omega
          have g6 : (0 : Int) ≤ (c : Int) + 1 := by omega
          have g7 : IntKind.i64.wrap ((c : Int) + 1) = (c : Int) + 1 := by rw [IntKind.wrap_i64]; omega
          have ec : ((c + 1 : Nat) : Int) = (c : Int) + 1 := by omega
          rw [ec]
          replace hca := Lib.hid hca
          clear ec hkP hlen hk0
          by_cases hlv : cmpC u x < 0
          · have hlu := (cmpC_neg u x).1 hlv
            obtain ⟨cv, hcv⟩ : ∃ cv, cv = cmpC u x := ⟨_, rfl⟩
            rw [← hcv] at hc hlv
            replace hcv := Lib.hid hcv
            replace hlu := Lib.hid hlu
            go_wp2_with fail
            go_quiet_grown (first | (go_at_fn g; refine Calls.grown_of (hc _ _)))
            have S3 : Hid (SWK encC 2 w0 blk off (X ++ (P.take (k + 1) ++ u :: P.drop (k + 1)) ++ (Q ++ Y)).toArray (grow (wr.drewN nq) osq)) := S2.out.grown nq osq
            clear c0 c1 d0' d1' hc S2 fin
            generalize grow (wr.drewN nq) osq = w2 at S3 ⊢
            clear nq osq
            obtain ⟨⟨i0, j0⟩, ⟨i1, j1⟩⟩ := swk_cells S3.out HC.out.R hz.out (i := c) (by rw [hz.out, ← hNs.out]; omega)
            obtain ⟨⟨p0, q0⟩, ⟨p1, q1⟩⟩ := swk_cells S3.out HC.out.R hz.out (i := c + 1) (by rw [hz.out, ← hNs.out]; omega)
            have S4 := swk_swap S3.out HC.out.R (i := c + 1) (j := c) (by rw [hz.out, ← hNs.out]; omega) (by rw [hz.out, ← hNs.out]; omega) u x hu.out hxx.out
            rw [hdown.out] at S4
            rw [← hxx.out] at i0 i1
            rw [← hu.out] at p0 p1
            have t1 : ∀ w3 : World, w3 = (((w2.drew.setCell ⟨blk, off + (c + 1) * 2, none⟩ (.int .i64 x.1)).setCell ⟨blk, off + (c + 1) * 2 + 1, none⟩ (.int .u64 x.2)).setCell ⟨blk, off + c * 2, none⟩ (.int .i64 u.1)).setCell ⟨blk, off + c * 2 + 1, none⟩ (.int .u64 u.2) → Hid (SWK encC 2 w0 blk off (X ++ (P.take k ++ u :: P.drop k) ++ (Q ++ Y)).toArray w3) := by
              intro w3 h; subst h; exact S4
            replace t1 := Lib.hid t1
            have hgt2 : Hid (∀ t, k ≤ t → t < P.length → u.1 < (P[t]!).1) := fun t h1 h2 => by
              by_cases e : t = k
              · subst e; rw [← hx.out]; exact hlu.out
              · exact hgt.out t (by omega) h2
            clear S3 S4 hgt
            go_wp2_with fail
            go_region
            go_wp2
            go_roundg (k)
            case measure => omega
            case rel => exact ⟨k, by rw [← hca.out], by omega, Nat.le_refl _, hgt2, t1.out _ rfl⟩
          · have hlu : x.1 ≤ u.1 := by
              have := (cmpC_neg u x)
              omega
            have S3 := fun n os => fin.out (fun t ht => by
              have := hle.out t k (by omega) (by have := hP.out; omega)
              rw [← hx.out] at this
              omega) _ (S2.out.grown n os)
            obtain ⟨cv, hcv⟩ : ∃ cv, cv = cmpC u x := ⟨_, rfl⟩
            rw [← hcv] at hc hlv
            replace hcv := Lib.hid hcv
            replace hlu := Lib.hid hlu
            replace S3 := Lib.hid S3
            have hdv : decide (cv < 0) = false := decide_eq_false hlv
            clear hlv fin
            go_wp2_with fail
            go_quiet_grown (first | (go_at_fn g; refine Calls.grown_of (hc _ _)))
            have S4 := S3.out nq osq
            clear c0 c1 d0' d1' hc S2 S3 hgt
            generalize grow (wr.drewN nq) osq = w2 at S4 ⊢
            clear nq osq
            go_wp2_with fail
            go_roundg (b - (i + 1))
            case measure => omega
            case rel => exact ⟨i + 1, by simp, by omega, by omega, Nat.le_refl _, S4⟩
    · obtain rfl : i = b := by omega
      have hge : ¬ (i : Int) < (i : Int) := by omega
      have hQ : Q = [] := List.eq_nil_of_length_eq_zero (by omega)
      subst hQ
      have fin : MergePost w0 blk off X Z Y (.returned (.tuple #[])) wr := ⟨rfl, P, by simpa using hZ, hs, by simpa using S1⟩
      replace fin := Lib.hid fin
      clear hP hZ hs S1 hPQ
      go_wp2
      go_end0
      exact fin.out
end Go.Proofs.Ytonacegkhkncmaa.St
