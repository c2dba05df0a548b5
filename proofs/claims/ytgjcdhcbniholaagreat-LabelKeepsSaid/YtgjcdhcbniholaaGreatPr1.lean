/- Print: the walk. -/
import Derived.Test.YtgjcdhcbniholaaGreatPr0
import Derived.Test.YtgjcdhcbniholaaGreatLc1
namespace Go.Proofs.YtgjcdhcbniholaaGreat.Pr
open Go.RowKit Go.Proofs.YtgjcdhcbniholaaGreat.La Go.Proofs.YtgjcdhcbniholaaGreat.Rp Go.Proofs.YtgjcdhcbniholaaGreat.Bd Go.Proofs.YtgjcdhcbniholaaGreat.Sl
set_option linter.unusedVariables false

theorem ps_byteL {w0 w : World} {R b : Nat} {bs : List UInt8} (h : PS w0 w R b bs) (c : UInt8) (n : Int) (hn : (c.toNat : Int) = n) (hlen : bs.length + 1 ≤ 140737488355328) :
    Calls Tryz.prog 32 #[.pointer (some ⟨b, 0, none⟩), .int .u8 n] w fun e w' => e = .returned .nilIface ∧ PS w0 w' R b (bs ++ [c]) ∧ Keeps b R w w' := by
  subst hn; exact ps_byte h c hlen

theorem PS.below {w0 w w' : World} {R b : Nat} {bs : List UInt8} (h : PS w0 w R b bs) (k : Below w.heap.size w w') : PS w0 w' R b bs := by
  have key : ∀ p, Lib.BuilderAt 64 5 b b p (Lib.byteCells bs) w → Lib.BuilderAt 64 5 b b p (Lib.byteCells bs) w' := by
    rintro p ⟨h1, v, h2, h3, h4⟩
    exact ⟨h1, v, (k.block b h.lt).trans h2, own_belowW h3 k, h4⟩
  refine ⟨?_, h.rep.below k, h.rb, h.r0, h.bel.trans (k.mono (by have := h.rb; have := h.r0; have := h.lt; omega)), Nat.lt_of_lt_of_le h.lt k.size⟩
  rcases h.ib with q | q
  · exact .inl (key _ q)
  · exact .inr (key _ q)

theorem tot_len (nm : ByteArray) (l : List Lab) (i : Nat) : 8 * i ≤ tot nm l i := by
  induction i with
  | zero => exact Nat.zero_le _
  | succ i ih => unfold tot; omega

set_option maxRecDepth 100000 in
set_option maxHeartbeats 8000000 in
theorem print_any (nm : ByteArray) (A : Option Addr) (c : Nat) (l : List Lab) (w : World) (h : Rd w w.heap.size 2 A (labs l) l.length) (hb : tot nm l l.length ≤ 536870912) :
    Calls Tryz.prog 12 #[.string nm, .slice A l.length c] w fun e w' => e = .returned (.string (prS nm l)) ∧ Below w.heap.size w w' := by
  by_cases hl0 : l = []
  · subst hl0
    refine (print_nil nm A c w).mono ?_
    rintro e w' ⟨rfl, hw⟩
    refine ⟨rfl, ?_⟩
    subst hw
    exact Below.refl _ _
  · have hn0 : l.length ≠ 0 := fun e => hl0 (List.eq_nil_of_length_eq_zero e)
    have t0 : ((l.length : Int) == 0) = false := by simpa using hl0
    have hlen := tot_len nm l l.length
    have hnI : (l.length : Int) ≤ 536870912 := by omega
    have cn := new_any w.heap.size 6 6 pP (w.alloc (.cells #[.string ⟨#[92]⟩, .string ⟨#[92, 92]⟩, .string ⟨#[34]⟩, .string ⟨#[92, 34]⟩, .string ⟨#[10]⟩, .string ⟨#[92, 110]⟩] 9)) (by decide) (by decide) rfl (by
      intro j u hu
      rw [cell_of_row _ _ _ _ _ _ (heap_alloc_new _ _), ← Array.getElem?_toList]
      exact hu)
    obtain ⟨n, hn⟩ : ∃ n, n = l.length := ⟨_, rfl⟩
    have hspec : prS nm l = ⟨(prN nm l n ++ [125]).toArray⟩ := by unfold prS prT; rw [if_neg hl0, ← hn]
    have hbi : ∀ i, i ≤ n → (prN nm l i).length ≤ 1073741824 ∧ tot nm l i ≤ 536870912 := fun i hi => by
      have h1 := prN_len nm l i
      have h2 := tot_mono nm l (i := i) (j := l.length) (by omega)
      omega
    rw [hspec]
    rw [← hn] at t0 hnI ⊢
    replace cn := Lib.hid cn
    replace h := Lib.hid h
    replace hn := Lib.hid hn
    replace hbi := Lib.hid hbi
    clear hspec hl0 hlen hb hn0
    go_enter Tryz.func12, Tryz.ntmps12
    go_wp2_with fail
    refine cn.out.mono ?_
    rintro e w1 ⟨R, rfl, hR, hF, hlt, hb1⟩
    simp only [World.size_alloc] at hR hb1
    have hb0 : Below w.heap.size w w1 := ((Below.refl _ _).alloc (Nat.le_refl _) _).trans (hb1.mono (by omega))
    have hps : PS w (w1.alloc (.cells #[.pointer none, .slice none 0 0] 64)) R w1.heap.size [] := by
      refine ⟨Lib.fresh_isBuilder _ _ w1, ⟨.inl ?_, by omega⟩, hlt, by omega, hb0.alloc (by omega) _, by simp⟩
      have hrep : Rep w1 R (R + 1) pP := ⟨.inl hF, Nat.lt_succ_self _⟩
      rcases (hrep.below ((Below.refl _ _).alloc (Nat.le_refl _) (.cells #[.pointer none, .slice none 0 0] 64))).1 with q | ⟨g, q, _⟩
      · exact q
      · obtain ⟨q0, cap0, q1, _⟩ := hF
        have := (heap_alloc_old w1 (.cells #[.pointer none, .slice none 0 0] 64) hlt).symm.trans q
        rw [q1] at this
        simp at this
    have c1 := ps_str hps nm (by have := (hbi.out 0 (Nat.zero_le _)).1; simp [prN] at this; simp; omega)
    replace c1 := Lib.hid c1
    clear hps hF hb1 cn
    go_wp2_with fail
    refine c1.out.mono ?_
    rintro e w2 ⟨rfl, hp2, _⟩
    have hsz : w.heap.size ≤ w2.heap.size := hp2.bel.size
    clear c1
    replace hp2 := Lib.hid hp2
    go_wp2
    go_loopw [19] (fun v wr => ∃ i : Nat, v = .int .i64 (i : Int) ∧ i ≤ n ∧ PS w wr R w1.heap.size (prN nm l i)) (fun v _ => n + 1 - Rp.natOf v)
    case atStart => exact ⟨0, rfl, Nat.zero_le _, hp2.out⟩
    case round =>
      obtain ⟨i, rfl, hi, hp⟩ := hrel
      have hsw := hp.bel.size
      have hlb := hp.lt
      have hR1 := hp.rb
      by_cases hlt : i < n
      · have hil : i < l.length := by rw [← hn.out]; exact hlt
        obtain ⟨b0, off, hA, hb, q0, q1⟩ := rd_lab h.out i hil rfl
        subst hA
        obtain ⟨x, hx⟩ : ∃ x, x = l[i] := ⟨_, rfl⟩
        rw [← hx] at q0 q1
        have z0 := (hp.bel.cell (p := ⟨b0, off + i * 2, none⟩) hb).trans q0
        have z1 := (hp.bel.cell (p := ⟨b0, off + i * 2 + 1, none⟩) hb).trans q1
        have g0 : (0 : Int) ≤ (i : Int) := by omega
        have g1 : (i : Int) < (n : Int) := by omega
        have g2 : wrap64 (i : Int) = (i : Int) := by unfold wrap64; omega
        have hgd : l.getD i (⟨#[]⟩, ⟨#[]⟩) = x := by rw [List.getD_eq_getElem?_getD, List.getElem?_eq_getElem hil, ← hx]; rfl
        have hst : prN nm l (i + 1) = prN nm l i ++ ((if i = 0 then 123 else 44) :: labT x) := by rw [← hgd]; rfl
        have hto : tot nm l (i + 1) = tot nm l i + (8 + x.1.size + x.2.size) := by rw [← hgd]; rfl
        have hb1 := hbi.out (i + 1) (by omega)
        have hb2 := (hbi.out i (by omega)).1
        have hes : (escS pP x.2).size = (escL pP x.2.data.toList).length := by show (escL pP x.2.data.toList).toArray.size = _; simp
        have hed : (escS pP x.2).data.toList = escL pP x.2.data.toList := by show (escL pP x.2.data.toList).toArray.toList = _; simp
        have hel : (escL pP x.2.data.toList).length ≤ 2 * x.2.size := by
          rw [escL_len]
          have := hits_le pP x.2.data.toList
          simp at *
          omega
        have hxs : x.1.size + x.2.size ≤ 536870912 := by omega
        have hla : LabAt (wr.alloc (.cells #[.string x.1, .string x.2] 45)) wr.heap.size x := heap_alloc_new _ _
        clear q0 q1 hx hgd hto hb1 hil
        replace hst := Lib.hid hst
        replace hla := Lib.hid hla
        replace hes := Lib.hid hes
        replace hed := Lib.hid hed
        replace hel := Lib.hid hel
        by_cases hi0 : i = 0
        · have hst := hst.out
          rw [if_pos hi0] at hst
          have ti : ((i : Int) == 0) = true := by simpa using hi0
          replace hst := Lib.hid hst
          clear hi0
          have c1 := ps_byteL (hp.below ((Below.refl _ _).alloc (Nat.le_refl _) (.cells #[.string x.1, .string x.2] 45))) 123 123 rfl (by omega)
          replace c1 := Lib.hid c1
          clear hp
          go_wp2_with fail
          refine c1.out.mono ?_
          rintro e w3 ⟨rfl, hp3, k3⟩
          have l3 := hla.out.keep k3 (by omega) (by omega)
          obtain ⟨y0, y1⟩ := And.intro l3.c0 l3.c1
          have c2 := ps_str hp3 x.1 (by simp; omega)
          replace c2 := Lib.hid c2
          replace l3 := Lib.hid l3
          clear c1 hp3 k3
          go_wp2_with fail
          refine c2.out.mono ?_
          rintro e w4 ⟨rfl, hp4, k4⟩
          have l4 := l3.out.keep k4 (by omega) (by omega)
          have c3 := ps_str hp4 ⟨#[61, 34]⟩ (by rw [show (⟨#[61, 34]⟩ : ByteArray).size = 2 from rfl]; simp; omega)
          replace c3 := Lib.hid c3
          replace l4 := Lib.hid l4
          clear c2 hp4 k4 y0 y1
          go_wp2_with fail
          refine c3.out.mono ?_
          rintro e w5 ⟨rfl, hp5, k5⟩
          have l5 := l4.out.keep k5 (by omega) (by omega)
          have y1 := l5.c1
          have c4 := ps_rep hp5 x.2 (by omega)
          replace c4 := Lib.hid c4
          clear c3 hp5 k5 l5 l4 l3
          go_wp2_with fail
          refine c4.out.mono ?_
          rintro e w6 ⟨rfl, hp6, k6⟩
          have c5 := ps_str hp6 (escS pP x.2) (by have := hel.out; rw [hes.out]; simp; omega)
          replace c5 := Lib.hid c5
          clear c4 hp6 k6 y1
          go_wp2_with fail
          refine c5.out.mono ?_
          rintro e w7 ⟨rfl, hp7, k7⟩
          have c6 := ps_byteL hp7 34 34 rfl (by have := hel.out; rw [hed.out]; simp; omega)
          replace c6 := Lib.hid c6
          clear c5 hp7 k7
          go_wp2_with fail
          refine c6.out.mono ?_
          rintro e w8 ⟨rfl, hp8, k8⟩
          clear c6
          replace hp8 := Lib.hid hp8
          go_wp2
          refine ⟨⟨i + 1, by simp, hlt, ?_⟩, by simp [Rp.natOf]; omega⟩
          rw [show prN nm l (i + 1) = _ from hst.out]
          have := hp8.out
          rw [hed.out] at this
          simpa [labT, List.append_assoc] using this
        · have hst := hst.out
          rw [if_neg hi0] at hst
          have ti : ((i : Int) == 0) = false := by simpa using hi0
          replace hst := Lib.hid hst
          clear hi0
          have c1 := ps_byteL (hp.below ((Below.refl _ _).alloc (Nat.le_refl _) (.cells #[.string x.1, .string x.2] 45))) 44 44 rfl (by omega)
          replace c1 := Lib.hid c1
          clear hp
          go_wp2_with fail
          refine c1.out.mono ?_
          rintro e w3 ⟨rfl, hp3, k3⟩
          have l3 := hla.out.keep k3 (by omega) (by omega)
          obtain ⟨y0, y1⟩ := And.intro l3.c0 l3.c1
          have c2 := ps_str hp3 x.1 (by simp; omega)
          replace c2 := Lib.hid c2
          replace l3 := Lib.hid l3
          clear c1 hp3 k3
          go_wp2_with fail
          refine c2.out.mono ?_
          rintro e w4 ⟨rfl, hp4, k4⟩
          have l4 := l3.out.keep k4 (by omega) (by omega)
          have c3 := ps_str hp4 ⟨#[61, 34]⟩ (by rw [show (⟨#[61, 34]⟩ : ByteArray).size = 2 from rfl]; simp; omega)
          replace c3 := Lib.hid c3
          replace l4 := Lib.hid l4
          clear c2 hp4 k4 y0 y1
          go_wp2_with fail
          refine c3.out.mono ?_
          rintro e w5 ⟨rfl, hp5, k5⟩
          have l5 := l4.out.keep k5 (by omega) (by omega)
          have y1 := l5.c1
          have c4 := ps_rep hp5 x.2 (by omega)
          replace c4 := Lib.hid c4
          clear c3 hp5 k5 l5 l4 l3
          go_wp2_with fail
          refine c4.out.mono ?_
          rintro e w6 ⟨rfl, hp6, k6⟩
          have c5 := ps_str hp6 (escS pP x.2) (by have := hel.out; rw [hes.out]; simp; omega)
          replace c5 := Lib.hid c5
          clear c4 hp6 k6 y1
          go_wp2_with fail
          refine c5.out.mono ?_
          rintro e w7 ⟨rfl, hp7, k7⟩
          have c6 := ps_byteL hp7 34 34 rfl (by have := hel.out; rw [hed.out]; simp; omega)
          replace c6 := Lib.hid c6
          clear c5 hp7 k7
          go_wp2_with fail
          refine c6.out.mono ?_
          rintro e w8 ⟨rfl, hp8, k8⟩
          clear c6
          replace hp8 := Lib.hid hp8
          go_wp2
          refine ⟨⟨i + 1, by simp, hlt, ?_⟩, by simp [Rp.natOf]; omega⟩
          rw [show prN nm l (i + 1) = _ from hst.out]
          have := hp8.out
          rw [hed.out] at this
          simpa [labT, List.append_assoc] using this
      · have hge : ¬ (i : Int) < (n : Int) := by omega
        obtain rfl : i = n := by omega
        have hb2 := (hbi.out i (Nat.le_refl _)).1
        have c1 := ps_byteL hp 125 125 rfl (by omega)
        replace c1 := Lib.hid c1
        clear hp
        go_wp2_with fail
        refine c1.out.mono ?_
        rintro e w3 ⟨rfl, hp3, _⟩
        have c2 := Tryz.Builder_String_any w1.heap.size w1.heap.size (prN nm l i ++ [125]) w3 hp3.ib (Nat.le_of_lt hp3.lt)
        have hbel := hp3.bel
        have hsz3 := hp3.lt
        replace c2 := Lib.hid c2
        clear c1 hp3
        go_wp2_with fail
        refine c2.out.mono ?_
        rintro e w4 ⟨rfl, hw4⟩
        go_wp2
        go_ret
        exact ⟨rfl, hbel.trans (hw4.mono (by omega))⟩
end Go.Proofs.YtgjcdhcbniholaaGreat.Pr
