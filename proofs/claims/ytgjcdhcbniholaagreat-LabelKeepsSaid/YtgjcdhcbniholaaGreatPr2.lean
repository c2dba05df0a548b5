/- The document's Print: the walk. -/
import Derived.Test.YtgjcdhcbniholaaGreatPr1
import Derived.Test.YtgjcdhcbniholaaGreatRp7
import Derived.Test.YtgjcdhcbniholaaGreatReg
import Derived.Laws.Concat
namespace Go.Proofs.YtgjcdhcbniholaaGreat.Pr
open Go.RowKit Go.Proofs.YtgjcdhcbniholaaGreat.La Go.Proofs.YtgjcdhcbniholaaGreat.Rp Go.Proofs.YtgjcdhcbniholaaGreat.Bd Go.Proofs.YtgjcdhcbniholaaGreat.Sl
set_option linter.unusedVariables false

def bsS (l : List UInt8) : ByteArray := ⟨l.toArray⟩
theorem bsS_size (l : List UInt8) : (bsS l).size = l.length := by show l.toArray.size = _; simp
theorem bsS_append (l : List UInt8) (s : ByteArray) : bsS l ++ s = bsS (l ++ s.data.toList) := by
  apply ByteArray.ext
  rw [ByteArray.data_append]
  apply Array.toList_inj.1
  simp [bsS]
theorem add_fact (a b : ByteArray) (h : a.size + b.size ≤ 9223372036854775807) : ∃ r, r = a ++ b ∧ ∀ w, (Op.stringOp .add a b).run Tryz.prog w = .ok (.string r) w := ⟨_, rfl, fun w => run_string_add_sum w a b h⟩

set_option maxRecDepth 100000 in
set_option maxHeartbeats 8000000 in
theorem rprint_any (nm : ByteArray) (A : Option Addr) (c : Nat) (l : List Lab) (w : World) (h : Rd w w.heap.size 2 A (labs l) l.length) (hb : tot nm l l.length ≤ 536870912) :
    Calls Tryz.prog 21 #[.string nm, .slice A l.length c] w fun e w' => e = .returned (.string (prS nm l)) ∧ Below w.heap.size w w' := by
  have hlen := tot_len nm l l.length
  have hnI : (l.length : Int) ≤ 536870912 := by omega
  obtain ⟨n, hn⟩ : ∃ n, n = l.length := ⟨_, rfl⟩
  have hbi : ∀ i, i ≤ n → (prN nm l i).length ≤ 1073741824 ∧ tot nm l i ≤ 536870912 := fun i hi => by
    have h1 := prN_len nm l i
    have h2 := tot_mono nm l (i := i) (j := l.length) (by omega)
    omega
  have hspec : prS nm l = if n = 0 then nm else bsS (prN nm l n ++ [125]) := by
    unfold prS prT
    by_cases h0 : l = []
    · subst h0
      obtain rfl : n = 0 := hn
      simp
    · have : n ≠ 0 := fun e => h0 (List.eq_nil_of_length_eq_zero (by omega))
      rw [if_neg h0, if_neg this, ← hn]; rfl
  rw [← hn] at hnI ⊢
  replace h := Lib.hid h
  replace hn := Lib.hid hn
  replace hbi := Lib.hid hbi
  replace hspec := Lib.hid hspec
  clear hlen hb
  go_enter Tryz.func21, Tryz.ntmps21
  go_wp2
  go_loopw [5, 6] (fun a v wr => ∃ (i : Nat) (S : ByteArray), a = .string S ∧ Hid (S = bsS (prN nm l i)) ∧ v = .int .i64 (i : Int) ∧ i ≤ n ∧ Below w.heap.size w wr) (fun _ v _ => n + 1 - Rp.natOf v)
  case atStart => exact ⟨0, nm, rfl, Lib.hid (by simp [prN, bsS]), rfl, Nat.zero_le _, Below.refl _ _⟩
  case round =>
    obtain ⟨i, S, rfl, hS, rfl, hi, hw⟩ := hrel
    have hsw := hw.size
    by_cases hlt : i < n
    · have hil : i < l.length := by rw [← hn.out]; exact hlt
      obtain ⟨b0, off, hA, hb, q0, q1⟩ := rd_lab h.out i hil rfl
      subst hA
      obtain ⟨x, hx⟩ : ∃ x, x = l[i] := ⟨_, rfl⟩
      rw [← hx] at q0 q1
      have z0 := (hw.cell (p := ⟨b0, off + i * 2, none⟩) hb).trans q0
      have z1 := (hw.cell (p := ⟨b0, off + i * 2 + 1, none⟩) hb).trans q1
      have g0 : (0 : Int) ≤ (i : Int) := by omega
      have g1 : (i : Int) < (n : Int) := by omega
      have g2 : wrap64 (i : Int) = (i : Int) := by unfold wrap64; omega
      have hgd : l.getD i (⟨#[]⟩, ⟨#[]⟩) = x := by rw [List.getD_eq_getElem?_getD, List.getElem?_eq_getElem hil, ← hx]; rfl
      have hst : prN nm l (i + 1) = prN nm l i ++ ((if i = 0 then 123 else 44) :: labT x) := by rw [← hgd]; rfl
      have hto : tot nm l (i + 1) = tot nm l i + (8 + x.1.size + x.2.size) := by rw [← hgd]; rfl
      have hb1 := hbi.out (i + 1) (by omega)
      have hb2 := (hbi.out i (by omega)).1
      have hel : (escS pP x.2).size ≤ 2 * x.2.size := by
        show (escL pP x.2.data.toList).toArray.size ≤ _
        have h1 := escL_len pP x.2.data.toList
        have h2 := hits_le pP x.2.data.toList
        simp at *
        omega
      have hed : (escS pP x.2).data.toList = escL pP x.2.data.toList := by show (escL pP x.2.data.toList).toArray.toList = _; simp
      have hxs : x.1.size + x.2.size ≤ 536870912 := by omega
      have ce := escaped_any x.2 true (by omega)
      have hSz : S.size ≤ 1073741824 := by rw [hS.out, bsS_size]; exact hb2
      obtain ⟨E, hE⟩ : ∃ E, E = escS pP x.2 := ⟨_, rfl⟩
      rw [show psOf true = pP from rfl, ← hE] at ce
      rw [← hE] at hel hed
      obtain ⟨N1, hN1, f1⟩ := add_fact x.1 ⟨#[61, 34]⟩ (by rw [show (⟨#[61, 34]⟩ : ByteArray).size = 2 from rfl]; omega)
      have s1 : N1.size = x.1.size + 2 := by rw [hN1, ByteArray.size_append]; rfl
      obtain ⟨N2, hN2, f2⟩ := add_fact N1 E (by omega)
      have s2 : N2.size = N1.size + E.size := by rw [hN2, ByteArray.size_append]
      obtain ⟨N3, hN3, f3⟩ := add_fact N2 ⟨#[34]⟩ (by rw [show (⟨#[34]⟩ : ByteArray).size = 1 from rfl]; omega)
      have s3 : N3.size = N2.size + 1 := by rw [hN3, ByteArray.size_append]; rfl
      obtain ⟨k, hk⟩ : ∃ k : UInt8, k = if i = 0 then 123 else 44 := ⟨_, rfl⟩
      obtain ⟨S1, hS1, f4⟩ := add_fact S ⟨#[k]⟩ (by rw [show (⟨#[k]⟩ : ByteArray).size = 1 from rfl]; omega)
      have s4 : S1.size = S.size + 1 := by rw [hS1, ByteArray.size_append]; rfl
      obtain ⟨S2, hS2, f5⟩ := add_fact S1 N3 (by omega)
      have hres : S2 = bsS (prN nm l (i + 1)) := by
        rw [hst, ← hk, hS2, hS1, hS.out, hN3, hN2, hN1, bsS_append, bsS_append]
        simp only [ByteArray.data_append, Array.toList_append, hed, labT, List.append_assoc, List.cons_append, List.nil_append]
      clear hb1 hb2 hel hed hxs hSz s1 s2 s3 s4 hst hto hgd hil q0 q1 hx hE hN1 hN2 hN3 hS1 hS2
      replace hres := Lib.hid hres
      replace ce := Lib.hid ce
      by_cases hi0 : i = 0
      · obtain rfl : k = 123 := by rw [hk, if_pos hi0]
        have ti : ((i : Int) == 0) = true := by simpa using hi0
        clear hi0 hk
        go_wp2
        refine Reg.region_below (by kernel_rfl) (by kernel_rfl) ?_
        intro Sx _ f hf hs
        have y0 := Reg.keepc hf (Nat.lt_of_lt_of_le hb hsw) z0
        have y1 := Reg.keepc hf (Nat.lt_of_lt_of_le hb hsw) z1
        have q1 := fun s => ce.out (f s)
        clear z0 z1 ce
        repeat (go_big_quiet_step ((go_at_call 43; with_reducible exact Reg.met hs (q1 _))))
        refine wpQuiet_nil ?_
        intro s
        have hb2 := hf s
        obtain ⟨w2, hw2⟩ : ∃ w2, w2 = f s := ⟨_, rfl⟩
        rw [← hw2] at hb2 ⊢
        clear hw2 hs hf q1 y0 y1
        go_wp2
        exact ⟨⟨i + 1, S2, rfl, hres, by simp, hlt, hw.trans (hb2.mono hsw)⟩, by simp [Rp.natOf]; omega⟩
      · obtain rfl : k = 44 := by rw [hk, if_neg hi0]
        have ti : ((i : Int) == 0) = false := by simpa using hi0
        clear hi0 hk
        go_wp2
        refine Reg.region_below (by kernel_rfl) (by kernel_rfl) ?_
        intro Sx _ f hf hs
        have y0 := Reg.keepc hf (Nat.lt_of_lt_of_le hb hsw) z0
        have y1 := Reg.keepc hf (Nat.lt_of_lt_of_le hb hsw) z1
        have q1 := fun s => ce.out (f s)
        clear z0 z1 ce
        repeat (go_big_quiet_step ((go_at_call 43; with_reducible exact Reg.met hs (q1 _))))
        refine wpQuiet_nil ?_
        intro s
        have hb2 := hf s
        obtain ⟨w2, hw2⟩ : ∃ w2, w2 = f s := ⟨_, rfl⟩
        rw [← hw2] at hb2 ⊢
        clear hw2 hs hf q1 y0 y1
        go_wp2
        exact ⟨⟨i + 1, S2, rfl, hres, by simp, hlt, hw.trans (hb2.mono hsw)⟩, by simp [Rp.natOf]; omega⟩
    · obtain rfl : i = n := by omega
      have hge : ¬ (i : Int) < (i : Int) := by omega
      have hb2 := (hbi.out i (Nat.le_refl _)).1
      by_cases h0 : i = 0
      · have hz : ¬ (0 : Int) < (i : Int) := by omega
        have hsp := hspec.out
        rw [if_pos h0] at hsp
        have hSn : S = nm := by rw [hS.out, h0]; simp [prN, bsS]
        subst hSn
        replace hsp := Lib.hid hsp
        go_wp2
        go_ret
        exact ⟨by rw [hsp.out]; rfl, hw⟩
      · have hz : (0 : Int) < (i : Int) := by omega
        have hsp := hspec.out
        rw [if_neg h0] at hsp
        have hSz : S.size ≤ 1073741824 := by rw [hS.out, bsS_size]; exact hb2
        obtain ⟨S1, hS1, f4⟩ := add_fact S ⟨#[125]⟩ (by rw [show (⟨#[125]⟩ : ByteArray).size = 1 from rfl]; omega)
        have hres : S1 = prS nm l := by rw [hsp, hS1, hS.out, bsS_append]
        clear hSz hS1 hsp
        replace hres := Lib.hid hres
        go_wp2
        go_ret
        exact ⟨by rw [← hres.out]; rfl, hw⟩
end Go.Proofs.YtgjcdhcbniholaaGreat.Pr
