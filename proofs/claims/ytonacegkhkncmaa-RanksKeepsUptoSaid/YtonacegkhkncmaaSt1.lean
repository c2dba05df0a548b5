/- Go's stable sorting at counts: exchanges of parts, rotation. -/
import Derived.Test.YtonacegkhkncmaaSt0
import Derived.Test.YtonacegkhkncmaaShelf
import Derived.WalkKit
import Derived.WalkSmall
import Derived.BigRegion
import Derived.Shelf.SlSortCmp.KitK
import Derived.Deep.LoopGhost
import Derived.Lib.Hide
namespace Go.Proofs.Ytonacegkhkncmaa.St
open Go.RowKit Go.Sort Go.Shelf Go.Proofs Go.Lib
set_option linter.unusedVariables false

/-- A count's cells. -/
def encC (c : Cnt) : List Value := [.int .i64 c.1, .int .u64 c.2]
theorem encC_len (c : Cnt) : (encC c).length = 2 := rfl
theorem encC_one (c : Cnt) : ∀ v ∈ encC c, v.oneCell' = true := by
  intro v hv; simp [encC] at hv; rcases hv with rfl | rfl <;> rfl

section
variable {w0 W : World} {blk off : Nat} {d0 dk : Array Cnt}
/-- The two cells of a count of the row. -/
theorem swk_cells (h : SWK encC 2 w0 blk off dk W) (R : RowK encC 2 w0 blk off d0) (hs : dk.size = d0.size) {i : Nat} (hi : i < dk.size) :
    (W.cell? ⟨blk, off + i * 2, none⟩ = some (.int .i64 (dk[i]!).1) ∧ W.frozen? ⟨blk, off + i * 2, none⟩ = false) ∧ (W.cell? ⟨blk, off + i * 2 + 1, none⟩ = some (.int .u64 (dk[i]!).2) ∧ W.frozen? ⟨blk, off + i * 2 + 1, none⟩ = false) := by
  have hH := h.holds R.hblk R.hH hs
  have c0 := HoldsK.cell hH hi (c := 0) (by omega)
  have c1 := HoldsK.cell hH hi (c := 1) (by omega)
  exact ⟨c0, c1⟩
/-- Two counts of the row exchanged. -/
theorem swk_swap (h : SWK encC 2 w0 blk off dk W) (R : RowK encC 2 w0 blk off d0) {i j : Nat} (hi : i < dk.size) (hj : j < dk.size) (x y : Cnt) (hx : x = dk[i]!) (hy : y = dk[j]!) :
    SWK encC 2 w0 blk off (swp dk i j) ((((W.drew.setCell ⟨blk, off + i * 2, none⟩ (.int .i64 y.1)).setCell ⟨blk, off + i * 2 + 1, none⟩ (.int .u64 y.2)).setCell ⟨blk, off + j * 2, none⟩ (.int .i64 x.1)).setCell ⟨blk, off + j * 2 + 1, none⟩ (.int .u64 x.2)) := by
  subst hx hy
  exact h.swapped R i j hi hj
end

theorem swapRange_any (w0 w : World) (blk off cap n a b : Nat) (d0 : Array Cnt) (X U Y V Z : List Cnt) (cv : Value) (R : RowK encC 2 w0 blk off d0) (hu : U.length = n) (hv : V.length = n) (ha : a = X.length) (hb : b = X.length + n + Y.length)
    (hs : d0.size = X.length + n + Y.length + n + Z.length) (hsz : d0.size < 4611686018427387904) (S : SWK encC 2 w0 blk off (X ++ U ++ Y ++ V ++ Z).toArray w) :
    Calls Try.prog 67 #[.slice (some ⟨blk, off, none⟩) d0.size cap, .int .i64 a, .int .i64 b, .int .i64 n, cv] w fun e w' => e = .returned (.tuple #[]) ∧ SWK encC 2 w0 blk off (X ++ V ++ Y ++ U ++ Z).toArray w' := by
  have hlen := fun k => swpd_len (X := X) (Y := Y) (Z := Z) hu hv k
  have hst := fun k (hk : k < n) => swpd_step (X := X) (Y := Y) (Z := Z) hu hv hk (i := a + k) (j := b + k) (by omega) (by omega)
  have hdn := swpd_done (X := X) (Y := Y) (Z := Z) hu hv
  rw [← swpd_zero] at S
  have hab : a + n ≤ b := by omega
  have hbz : b + n ≤ d0.size := by omega
  have S0 := Lib.hid S
  replace hlen := Lib.hid hlen
  replace hst := Lib.hid hst
  replace hdn := Lib.hid hdn
  replace hu := Lib.hid hu
  replace hv := Lib.hid hv
  replace ha := Lib.hid ha
  replace hb := Lib.hid hb
  replace hs := Lib.hid hs
  obtain ⟨m, hm⟩ : ∃ m, m = d0.size := ⟨_, rfl⟩
  rw [← hm] at hsz hbz ⊢
  replace hm := Lib.hid hm
  obtain ⟨F, hF⟩ : ∃ F, F = (X ++ V ++ Y ++ U ++ Z).toArray := ⟨_, rfl⟩
  rw [← hF]
  replace hF := Lib.hid hF
  clear S
  go_enter Try.func67, Try.ntmps67
  go_wp2
  go_loopg [10] n (fun kx s10 wr => ∃ k : Nat, s10 = .int .i64 (k : Int) ∧ k ≤ n ∧ n - k ≤ kx ∧ Hid (SWK encC 2 w0 blk off (swpd X U Y V Z k).toArray wr))
  case atStart => exact ⟨0, rfl, Nat.zero_le _, by omega, S0⟩
  case round =>
    clear S0
    obtain ⟨k, rfl, hk, hkx, S1⟩ := hrel
    by_cases hlt : k < n
    · have hz : (swpd X U Y V Z k).toArray.size = d0.size := by simp only [List.size_toArray]; rw [hlen.out, hs.out]
      have hz1 : (swpd X U Y V Z k).toArray.size = m := by rw [hz, hm.out]
      obtain ⟨⟨i0, j0⟩, ⟨i1, j1⟩⟩ := swk_cells S1.out R hz (i := a + k) (by rw [hz1]; omega)
      obtain ⟨⟨p0, q0⟩, ⟨p1, q1⟩⟩ := swk_cells S1.out R hz (i := b + k) (by rw [hz1]; omega)
      have S2 := swk_swap S1.out R (i := a + k) (j := b + k) (by rw [hz1]; omega) (by rw [hz1]; omega) _ _ rfl rfl
      rw [hst.out k hlt] at S2
      generalize (swpd X U Y V Z k).toArray[a + k]! = x at *
      generalize (swpd X U Y V Z k).toArray[b + k]! = y at *
      have e1 : ((a : Int) + (k : Int)).toNat = a + k := by omega
      have e2 : ((b : Int) + (k : Int)).toNat = b + k := by omega
      have g1 : (0 : Int) ≤ (a : Int) + (k : Int) := by omega
      have g2 : (0 : Int) ≤ (b : Int) + (k : Int) := by omega
      have g3 : (a : Int) + (k : Int) < (m : Int) := by omega
      have g4 : (b : Int) + (k : Int) < (m : Int) := by omega
      have g5 : (k : Int) < (n : Int) := by omega
      have r1 : IntKind.i64.wrap ((a : Int) + (k : Int)) = (a : Int) + (k : Int) := by rw [IntKind.wrap_i64]; omega
      have r2 : IntKind.i64.wrap ((b : Int) + (k : Int)) = (b : Int) + (k : Int) := by rw [IntKind.wrap_i64]; omega
      replace S2 := Lib.hid S2
      clear S1 hz hz1
      obtain ⟨x1, x2⟩ := x
      obtain ⟨y1, y2⟩ := y
      have t1 : ∀ w2 : World, w2 = (((wr.drew.setCell ⟨blk, off + (a + k) * 2, none⟩ (.int .i64 y1)).setCell ⟨blk, off + (a + k) * 2 + 1, none⟩ (.int .u64 y2)).setCell ⟨blk, off + (b + k) * 2, none⟩ (.int .i64 x1)).setCell ⟨blk, off + (b + k) * 2 + 1, none⟩ (.int .u64 x2) → Hid (SWK encC 2 w0 blk off (swpd X U Y V Z (k + 1)).toArray w2) := by
        intro w2 h; subst h; exact S2
      clear S2
      replace t1 := Lib.hid t1
      simp only at i0 i1 p0 p1
      go_wp2_with fail
      go_region
      go_wp2
      go_roundg (n - (k + 1))
      case measure => omega
      case rel => exact ⟨k + 1, by simp, by omega, Nat.le_refl _, t1.out _ rfl⟩
    · obtain rfl : k = n := by omega
      have S2 := S1.out
      rw [hdn.out, ← hF.out] at S2
      replace S2 := Lib.hid S2
      have hge : ¬ (k : Int) < (k : Int) := by omega
      clear S1
      go_wp2
      go_end0
      exact ⟨rfl, S2.out⟩

/-- data[a:m] and data[m:b] change places. -/
theorem rotate_any (w0 w : World) (blk off cap a m b : Nat) (d0 : Array Cnt) (X P Q Y : List Cnt) (cv : Value) (R : RowK encC 2 w0 blk off d0) (ha : a = X.length) (hm : m = X.length + P.length) (hb : b = X.length + P.length + Q.length)
    (hp : 0 < P.length) (hq : 0 < Q.length) (hs : d0.size = X.length + P.length + Q.length + Y.length) (hsz : d0.size < 4611686018427387904) (S : SWK encC 2 w0 blk off (X ++ (P ++ Q) ++ Y).toArray w) :
    Calls Try.prog 66 #[.slice (some ⟨blk, off, none⟩) d0.size cap, .int .i64 a, .int .i64 m, .int .i64 b, cv] w fun e w' => e = .returned (.tuple #[]) ∧ SWK encC 2 w0 blk off (X ++ (Q ++ P) ++ Y).toArray w' := by
  have call := fun (w : World) (n a b : Nat) (X U Y V Z : List Cnt) => swapRange_any w0 w blk off cap n a b d0 X U Y V Z cv R
  obtain ⟨N, hN⟩ : ∃ N, N = d0.size := ⟨_, rfl⟩
  rw [← hN] at hsz hs call ⊢
  have S0 := Lib.hid S
  obtain ⟨F, hF⟩ : ∃ F, F = (X ++ (Q ++ P) ++ Y).toArray := ⟨_, rfl⟩
  rw [← hF]
  have h0 : m - P.length = a := by omega
  have h1 : P.length ≤ m := by omega
  have h2 : m + Q.length ≤ N := by omega
  have h3 : (m : Int) - (a : Int) = (P.length : Int) := by omega
  have h4 : (b : Int) - (m : Int) = (Q.length : Int) := by omega
  have h5 : (a : Int) ≤ N ∧ (m : Int) ≤ N ∧ (b : Int) ≤ N := by omega
  have hsI : (N : Int) < 4611686018427387904 := by omega
  obtain ⟨h5, h6, h7⟩ := h5
  have eL : X.length = m - P.length := by omega
  have eF : Hid (F = (X ++ (Q ++ P) ++ Y).toArray) := hF
  replace call := Lib.hid call
  obtain ⟨pl, hpl⟩ : ∃ pl, pl = P.length := ⟨_, rfl⟩
  obtain ⟨ql, hql⟩ : ∃ ql, ql = Q.length := ⟨_, rfl⟩
  rw [← hpl] at h0 h1 h3 eL hp
  rw [← hql] at h2 h4 hq
  replace hpl := Lib.hid hpl
  replace hql := Lib.hid hql
  replace eL := Lib.hid eL
  replace hs := Lib.hid hs
  clear S hF hN hb ha
  have hmx : m = X.length + P.length := hm
  replace hmx := Lib.hid hmx
  clear hm
  clear h0 eL h1 h2
  go_enter Try.func66, Try.ntmps66
  go_wp2
  go_loopg [10, 11] (pl + ql) (fun kx s10 s11 wr => ∃ (X' P' Q' Y' : List Cnt) (i j : Nat), s10 = .int .i64 (i : Int) ∧ s11 = .int .i64 (j : Int) ∧ 0 < i ∧ 0 < j ∧ i + j ≤ kx ∧ i ≤ m ∧ m + j ≤ N ∧
    Hid (P'.length = i ∧ Q'.length = j ∧ m = X'.length + P'.length ∧ N = X'.length + P'.length + Q'.length + Y'.length ∧ F = (X' ++ (Q' ++ P') ++ Y').toArray ∧ SWK encC 2 w0 blk off (X' ++ (P' ++ Q') ++ Y').toArray wr))
  case atStart => exact ⟨X, P, Q, Y, pl, ql, rfl, rfl, hp, hq, Nat.le_refl _, by have := hmx.out; have := hpl.out; omega, by have := hmx.out; have := hpl.out; have := hql.out; have := hs.out; omega, hpl.out.symm, hql.out.symm, hmx.out, hs.out, eF.out, S0.out⟩
  case round =>
    clear S0 hpl hql eF hs hmx h3 h4 h5 h7 hp hq
    obtain ⟨X', P', Q', Y', i, j, rfl, rfl, hi, hj, hkx, him, hmj, hall⟩ := hrel
    have hd1 : (m : Int) - (i : Int) = ((m - i : Nat) : Int) := by omega
    have hd2 : (m : Int) + (j : Int) - (i : Int) = ((m + j - i : Nat) : Int) := by omega
    have g1 : (i : Int) ≤ m := by omega
    have g2 : (m : Int) + (j : Int) ≤ N := by omega
    have g3 : (0 : Int) < i := by omega
    have g4 : (0 : Int) < j := by omega
    rcases Nat.lt_trichotomy i j with hij | hij | hij
    · -- the left part is the shorter
      obtain ⟨p1, p2, p3, p4, p5, p6⟩ := hall.out
      have q1 : (Q'.take (j - i)).length = j - i := by rw [List.length_take]; omega
      have q2 : (Q'.drop (j - i)).length = i := by rw [List.length_drop]; omega
      have S1 : SWK encC 2 w0 blk off (X' ++ P' ++ Q'.take (j - i) ++ Q'.drop (j - i) ++ Y').toArray wr := by
        have e : X' ++ P' ++ Q'.take (j - i) ++ Q'.drop (j - i) ++ Y' = X' ++ (P' ++ Q') ++ Y' := by
          rw [List.append_assoc (X' ++ P'), List.take_append_drop]; simp
        rw [e]; exact p6
      have c := call.out wr i (m - i) (m + j - i) X' P' (Q'.take (j - i)) (Q'.drop (j - i)) Y' p1 q2 (by omega) (by omega) (by omega) hsz S1
      have e6 : F = (X' ++ (Q'.take (j - i) ++ Q'.drop (j - i)) ++ P' ++ Y').toArray := by rw [List.take_append_drop, p5]; simp
      have f6 : m = X'.length + (Q'.drop (j - i)).length := by omega
      have f7 : N = X'.length + (Q'.drop (j - i)).length + (Q'.take (j - i)).length + (P' ++ Y').length := by simp only [List.length_append]; omega
      have hne : ((i : Int) != (j : Int)) = true := by simp; omega
      have hgt : ¬ (j : Int) < (i : Int) := by omega
      have hdj : (j : Int) - (i : Int) = ((j - i : Nat) : Int) := by omega
      replace c := Lib.hid c
      replace e6 := Lib.hid e6
      replace f6 := Lib.hid f6
      replace f7 := Lib.hid f7
      replace q1 := Lib.hid q1
      replace q2 := Lib.hid q2
      clear S1 p1 p2 p3 p4 p5 p6 hall call
      go_wp2_with fail
      refine c.out.mono ?_
      rintro e w1 ⟨rfl, S2⟩
      replace S2 := Lib.hid S2
      clear c
      go_wp2
      go_roundg (i + (j - i))
      case measure => omega
      case rel =>
        refine ⟨X', Q'.drop (j - i), Q'.take (j - i), P' ++ Y', i, j - i, rfl, by first | rfl | simp [hdj], hi, by omega, Nat.le_refl _, him, by omega, q2.out, q1.out, f6.out, f7.out, ?_, ?_⟩
        · rw [e6.out]; simp
        · have := S2.out
          simpa using this
    · -- parts of one length
      obtain ⟨p1, p2, p3, p4, p5, p6⟩ := hall.out
      subst hij
      have S1 : SWK encC 2 w0 blk off (X' ++ P' ++ [] ++ Q' ++ Y').toArray wr := by simpa using p6
      have c := call.out wr i (m - i) m X' P' [] Q' Y' p1 p2 (by omega) (by simp; omega) (by simp; omega) hsz S1
      have e6 : (X' ++ Q' ++ [] ++ P' ++ Y').toArray = F := by rw [p5]; simp
      rw [e6] at c
      have hne : ((i : Int) != (i : Int)) = false := by simp
      replace c := Lib.hid c
      clear S1 p1 p2 p3 p4 p5 p6 hall call e6
      go_wp2_with fail
      refine c.out.mono ?_
      rintro e w1 ⟨rfl, S2⟩
      replace S2 := Lib.hid S2
      clear c
      go_wp2
      go_end0
      exact ⟨rfl, S2.out⟩
    · -- the right part is the shorter
      obtain ⟨p1, p2, p3, p4, p5, p6⟩ := hall.out
      have q1 : (P'.take j).length = j := by rw [List.length_take]; omega
      have q2 : (P'.drop j).length = i - j := by rw [List.length_drop]; omega
      have S1 : SWK encC 2 w0 blk off (X' ++ P'.take j ++ P'.drop j ++ Q' ++ Y').toArray wr := by
        have e : X' ++ P'.take j ++ P'.drop j ++ Q' ++ Y' = X' ++ (P' ++ Q') ++ Y' := by
          rw [List.append_assoc X', List.take_append_drop]; simp
        rw [e]; exact p6
      have c := call.out wr j (m - i) m X' (P'.take j) (P'.drop j) Q' Y' q1 p2 (by omega) (by omega) (by omega) hsz S1
      have e6 : F = ((X' ++ Q') ++ (P'.take j ++ P'.drop j) ++ Y').toArray := by rw [List.take_append_drop, p5]; simp
      have f6 : m = (X' ++ Q').length + (P'.drop j).length := by rw [List.length_append]; omega
      have f7 : N = (X' ++ Q').length + (P'.drop j).length + (P'.take j).length + Y'.length := by simp only [List.length_append]; omega
      have hne : ((i : Int) != (j : Int)) = true := by simp; omega
      have hgt : (j : Int) < (i : Int) := by omega
      have hdj : (i : Int) - (j : Int) = ((i - j : Nat) : Int) := by omega
      replace c := Lib.hid c
      replace e6 := Lib.hid e6
      replace f6 := Lib.hid f6
      replace f7 := Lib.hid f7
      replace q1 := Lib.hid q1
      replace q2 := Lib.hid q2
      clear S1 p1 p2 p3 p4 p5 p6 hall call
      go_wp2_with fail
      refine c.out.mono ?_
      rintro e w1 ⟨rfl, S2⟩
      replace S2 := Lib.hid S2
      clear c
      go_wp2
      go_roundg (i - j + j)
      case measure => omega
      case rel =>
        refine ⟨X' ++ Q', P'.drop j, P'.take j, Y', i - j, j, by first | rfl | simp [hdj], rfl, by omega, hj, Nat.le_refl _, by omega, hmj, q2.out, q1.out, f6.out, f7.out, ?_, ?_⟩
        · rw [e6.out]
        · have := S2.out
          simpa using this
end Go.Proofs.Ytonacegkhkncmaa.St
