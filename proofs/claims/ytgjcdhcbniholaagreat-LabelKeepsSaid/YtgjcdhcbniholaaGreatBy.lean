/- beyond. -/
import Derived.Test.YtgjcdhcbniholaaGreatPr2
namespace Go.Proofs.YtgjcdhcbniholaaGreat.Pr
open Go.RowKit Go.Proofs.YtgjcdhcbniholaaGreat.La Go.Proofs.YtgjcdhcbniholaaGreat.Rp Go.Proofs.YtgjcdhcbniholaaGreat.Bd Go.Proofs.YtgjcdhcbniholaaGreat.Sl
set_option linter.unusedVariables false

set_option maxRecDepth 100000 in
set_option maxHeartbeats 8000000 in
theorem beyond_any (nm : ByteArray) (A : Option Addr) (c : Nat) (l : List Lab) (w : World) (h : Rd w w.heap.size 2 A (labs l) l.length) (hnm : nm.size ≤ 140737488355328) (hlx : ∀ x ∈ l, x.1.size ≤ 140737488355328 ∧ x.2.size ≤ 140737488355328) (hlen : l.length ≤ 140737488355328) :
    Calls Tryz.prog 20 #[.string nm, .slice A l.length c] w fun e w' => e = .returned (.bool (decide (536870912 < tot nm l l.length))) ∧ w' = w := by
  obtain ⟨n, hn⟩ : ∃ n, n = l.length := ⟨_, rfl⟩
  have hnI : (n : Int) ≤ 140737488355328 := by omega
  have hmI : (nm.size : Int) ≤ 140737488355328 := by omega
  have hm0 : (0 : Int) ≤ (nm.size : Int) := by omega
  have hmono : ∀ i, i ≤ n → tot nm l i ≤ tot nm l l.length := fun i hi => tot_mono nm l (by omega)
  obtain ⟨res, hres⟩ : ∃ res, res = decide (536870912 < tot nm l l.length) := ⟨_, rfl⟩
  rw [← hres, ← hn]
  replace h := Lib.hid h
  replace hn := Lib.hid hn
  replace hlx := Lib.hid hlx
  replace hmono := Lib.hid hmono
  replace hres := Lib.hid hres
  clear hnm hlen
  go_enter Tryz.func20, Tryz.ntmps20
  go_wp2
  go_loopw [5, 6] (fun a v wr => ∃ (i : Nat) (L : Int), a = .int .i64 L ∧ Hid (L = 536870912 - (tot nm l i : Int)) ∧ v = .int .i64 (i : Int) ∧ i ≤ n ∧ -562949953421312 ≤ L ∧ L ≤ 536870912 ∧ w = wr) (fun _ v _ => n + 1 - Rp.natOf v)
  case atStart => exact ⟨0, _, rfl, rfl, rfl, Nat.zero_le _, by omega, by omega, rfl⟩
  case round =>
    obtain ⟨i, L, rfl, hL, rfl, hi, hL1, hL2, hww⟩ := hrel
    subst hww
    by_cases hlt : i < n
    · have g0 : (0 : Int) ≤ (i : Int) := by omega
      have g1 : (i : Int) < (n : Int) := by omega
      by_cases hneg : L < 0
      · have hng : ¬ (0 : Int) ≤ L := by omega
        have hr : res = true := by
          rw [hres.out]
          have h1 := hL.out
          have h2 := hmono.out i hi
          simp; omega
        subst hr
        go_wp2
        go_ret
        exact ⟨rfl, rfl⟩
      · have hng : (0 : Int) ≤ L := by omega
        have hil : i < l.length := by rw [← hn.out]; exact hlt
        obtain ⟨b0, off, hA, hb, z0, z1⟩ := rd_lab h.out i hil rfl
        subst hA
        have hsz := hlx.out l[i] (List.getElem_mem hil)
        have hgd : l.getD i (⟨#[]⟩, ⟨#[]⟩) = l[i] := by rw [List.getD_eq_getElem?_getD, List.getElem?_eq_getElem hil]; rfl
        have hto : tot nm l (i + 1) = tot nm l i + (8 + l[i].1.size + l[i].2.size) := by rw [← hgd]; rfl
        obtain ⟨x, hx⟩ : ∃ x, x = l[i] := ⟨_, rfl⟩
        rw [← hx] at z0 z1 hsz hto
        have g2 : wrap64 (i : Int) = (i : Int) := by unfold wrap64; omega
        have x1 : (x.1.size : Int) ≤ 140737488355328 := by omega
        have x2 : (x.2.size : Int) ≤ 140737488355328 := by omega
        have x3 : (0 : Int) ≤ (x.1.size : Int) := by omega
        have x4 : (0 : Int) ≤ (x.2.size : Int) := by omega
        have hL' : L - 8 - (x.1.size : Int) - (x.2.size : Int) = 536870912 - (tot nm l (i + 1) : Int) := by rw [hto]; have := hL.out; omega
        clear hx hto hgd hsz hil hneg
        replace hL' := Lib.hid hL'
        go_wp2
        exact ⟨⟨i + 1, _, rfl, hL', by simp, hlt, by omega, by omega, trivial⟩, by simp [Rp.natOf]; omega⟩
    · obtain rfl : i = n := by omega
      have hge : ¬ (i : Int) < (i : Int) := by omega
      by_cases hneg : L < 0
      · have hr : res = true := by
          rw [hres.out, ← hn.out]
          have h1 := hL.out
          simp; omega
        subst hr
        go_wp2
        go_ret
        exact ⟨rfl, rfl⟩
      · have hr : res = false := by
          rw [hres.out, ← hn.out]
          have h1 := hL.out
          simp; omega
        subst hr
        go_wp2
        go_ret
        exact ⟨rfl, rfl⟩
end Go.Proofs.YtgjcdhcbniholaaGreat.Pr
