/- LabelOneForm: the walk. -/
import Derived.Test.YtgjcdhcbniholaaPr3
import Derived.Test.YtgjcdhcbniholaaPl
import Derived.Test.YtgjcdhcbniholaaCk
namespace Go.Proofs.Ytgjcdhcbniholaa.Of
open Go.RowKit Go.Proofs.Ytgjcdhcbniholaa.La Go.Proofs.Ytgjcdhcbniholaa.Rp Go.Proofs.Ytgjcdhcbniholaa.Pr Go.Proofs.Ytgjcdhcbniholaa.Pl Go.Proofs.Ytgjcdhcbniholaa.Sl
set_option linter.unusedVariables false

theorem chkR_ok (l : List Lab) (h : LabsOk l) : ∀ k i, i + k = l.length → Ck.chkR (l.take i) (l.drop i) = 0
  | 0, i, hi => by rw [List.drop_of_length_le (by omega)]; rfl
  | k + 1, i, hi => by
    have hil : i < l.length := by omega
    obtain ⟨a1, a2, a3⟩ := h.each i hil
    rw [Ck.chkR_drop l i hil, a1, if_neg (by decide), a3, if_neg (by decide), a2, if_neg (by decide)]
    exact chkR_ok l h k (i + 1) (by omega)
theorem labs_small {l : List Lab} (h : LabsOk l) : ∀ x ∈ l, x.1.size ≤ 9223372036854775807 ∧ x.2.size ≤ 9223372036854775807 := by
  intro x hx
  obtain ⟨i, hi, rfl⟩ := List.mem_iff_getElem.1 hx
  obtain ⟨a1, _, a3⟩ := h.each i hi
  have b1 := lnameL_len a1
  have b3 := val_len a3
  simp at b1
  exact ⟨by omega, by omega⟩
theorem val_nil : valE ⟨#[]⟩ = 0 := by kernel_rfl
theorem chkD_ok (nm : ByteArray) (A : Option Addr) (c : Nat) (l : List Lab) (h1 : nameL nm.data.toList = true) (h2 : LabsOk l) : Ck.chkD ⟨1, nm, ⟨#[]⟩, A, c, l⟩ = 0 := by
  unfold Ck.chkD
  have := h2.many
  rw [if_neg (by simp), h1, if_neg (by decide), val_nil, if_neg (by decide), if_neg (show ¬ 16 < l.length by omega)]
  exact chkR_ok l h2 l.length 0 (by omega)

set_option maxRecDepth 100000 in
set_option maxHeartbeats 8000000 in
theorem oneForm_any (t : ByteArray) (hs : t.size ≤ 140737488355328) (w : World) :
    Calls Try.prog 7 #[.string t] w fun e w' => e = .returned (.bool true) ∧ Below w.heap.size w w' := by
  have ca := Lib.hid (awake_any w)
  have d1 := Lib.hid (unhelp_any t hs)
  go_enter Try.func7, Try.ntmps7
  go_wp2_with fail
  refine ca.out.mono ?_
  rintro e w1 ⟨rfl, h1⟩
  clear ca
  go_wp2_with fail
  refine (d1.out _).mono ?_
  rintro e w2 ⟨rfl, hb2⟩
  have h2 := h1.trans (hb2.mono h1.size)
  clear hb2 h1 d1
  cases hr : unhR t with
  | none =>
    unfold unhE
    have cp := parse_any t hs w2
    replace cp := Lib.hid cp
    go_wp2_with fail
    refine cp.out.mono ?_
    intro e w3 hpost
    cases hser : serR t with
    | bad er q =>
      rw [hser] at hpost
      obtain ⟨rfl, hb3⟩ := hpost
      obtain ⟨he0, hq⟩ := serR_bad t er q hser
      have t1 : (er != 0) = true := by simpa using he0
      have t2 : (0 : Int) ≤ (q : Int) := by omega
      have t3 : (q : Int) ≤ (t.size : Int) := by omega
      have hbel := h2.trans (hb3.mono h2.size)
      clear hser he0 hq hs cp
      go_wp2
      go_ret
      exact ⟨rfl, hbel⟩
    | ok nm ls =>
      rw [hser] at hpost
      obtain ⟨A, c, rfl, hown, hb3⟩ := hpost
      obtain ⟨l1, l2, l3⟩ := serR_ok t nm ls hser
      have htot : tot nm ls ls.length ≤ 536870912 := by
        have := tot_small nm ls l1 l2 ls.length (Nat.le_refl _)
        have := l2.many
        omega
      have hbel := h2.trans (hb3.mono h2.size)
      have hrd : Rd w3 w3.heap.size 2 A (labs ls) ls.length := Rd.of_own hown (fun g hg => by subst hg; exact (own_lt hown _ rfl).2)
      obtain ⟨A', c', hf, hc1, hc2, _⟩ := own_form hown
      obtain ⟨rfl, rfl⟩ : A = A' ∧ c = c' := by simpa using hf
      have cpr := print_any nm A c ls w3 hrd htot
      have hprS : prS nm ls = t := by unfold prS; rw [l3]
      rw [hprS] at cpr
      have cck := fun (w4 : World) (k : Below w3.heap.size w3 w4) => Ck.check_any (w := w4) ⟨1, nm, ⟨#[]⟩, A, c, ls⟩ ((hrd.below k).mono k.size) hc1 (Nat.le_trans hc2 (by decide)) (by have := nameL_len l1; simp at this; show nm.size ≤ _; omega) (show (⟨#[]⟩ : ByteArray).size ≤ 9223372036854775807 from by decide) (labs_small l2)
      rw [chkD_ok nm A c ls l1 l2] at cck
      unfold DD.v at cck
      dsimp only at cck
      clear hser hs cp hown hrd l1 l2 l3 htot hprS hf hc1 hc2
      obtain ⟨n, hn⟩ : ∃ n, n = ls.length := ⟨_, rfl⟩
      rw [← hn] at cpr cck ⊢
      clear hn
      replace cpr := Lib.hid cpr
      replace cck := Lib.hid cck
      go_wp2_with fail
      refine cpr.out.mono ?_
      rintro e w4 ⟨rfl, hb4⟩
      have c5 := cck.out w4 hb4
      have hbel4 := hbel.trans (hb4.mono hbel.size)
      replace c5 := Lib.hid c5
      clear cpr cck
      go_wp2_with fail
      refine c5.out.mono ?_
      rintro e w5 ⟨rfl, hb5⟩
      go_wp2
      go_ret
      exact ⟨rfl, hbel4.trans (hb5.mono hbel4.size)⟩
  | some L =>
    have hback := unhR_back t L hr
    have hLt : escS pH ⟨L.toArray⟩ = t := by
      unfold escS
      rw [show (⟨L.toArray⟩ : ByteArray).data.toList = L from rfl, hback]
    have ch := help_big ⟨L.toArray⟩ (by
      have := escL_len pH L
      rw [hback, len_data] at this
      show L.toArray.size + hits pH L.toArray.toList ≤ _
      simp; omega) w2
    rw [hLt] at ch
    replace ch := Lib.hid ch
    clear hback hLt hr
    unfold unhE
    go_wp2_with fail
    refine ch.out.mono ?_
    rintro e w2' ⟨rfl, hb2⟩
    have h3 := h2.trans (hb2.mono h2.size)
    clear ch hb2 h2
    have cp := parse_any t hs w2'
    replace cp := Lib.hid cp
    go_wp2_with fail
    refine cp.out.mono ?_
    intro e w3 hpost
    cases hser : serR t with
    | bad er q =>
      rw [hser] at hpost
      obtain ⟨rfl, hb3⟩ := hpost
      obtain ⟨he0, hq⟩ := serR_bad t er q hser
      have t1 : (er != 0) = true := by simpa using he0
      have t2 : (0 : Int) ≤ (q : Int) := by omega
      have t3 : (q : Int) ≤ (t.size : Int) := by omega
      have hbel := h3.trans (hb3.mono h3.size)
      clear hser he0 hq hs cp
      go_wp2
      go_ret
      exact ⟨rfl, hbel⟩
    | ok nm ls =>
      rw [hser] at hpost
      obtain ⟨A, c, rfl, hown, hb3⟩ := hpost
      obtain ⟨l1, l2, l3⟩ := serR_ok t nm ls hser
      have htot : tot nm ls ls.length ≤ 536870912 := by
        have := tot_small nm ls l1 l2 ls.length (Nat.le_refl _)
        have := l2.many
        omega
      have hbel := h3.trans (hb3.mono h3.size)
      have hrd : Rd w3 w3.heap.size 2 A (labs ls) ls.length := Rd.of_own hown (fun g hg => by subst hg; exact (own_lt hown _ rfl).2)
      obtain ⟨A', c', hf, hc1, hc2, _⟩ := own_form hown
      obtain ⟨rfl, rfl⟩ : A = A' ∧ c = c' := by simpa using hf
      have cpr := print_any nm A c ls w3 hrd htot
      have hprS : prS nm ls = t := by unfold prS; rw [l3]
      rw [hprS] at cpr
      have cck := fun (w4 : World) (k : Below w3.heap.size w3 w4) => Ck.check_any (w := w4) ⟨1, nm, ⟨#[]⟩, A, c, ls⟩ ((hrd.below k).mono k.size) hc1 (Nat.le_trans hc2 (by decide)) (by have := nameL_len l1; simp at this; show nm.size ≤ _; omega) (show (⟨#[]⟩ : ByteArray).size ≤ 9223372036854775807 from by decide) (labs_small l2)
      rw [chkD_ok nm A c ls l1 l2] at cck
      unfold DD.v at cck
      dsimp only at cck
      clear hser hs cp hown hrd l1 l2 l3 htot hprS hf hc1 hc2
      obtain ⟨n, hn⟩ : ∃ n, n = ls.length := ⟨_, rfl⟩
      rw [← hn] at cpr cck ⊢
      clear hn
      replace cpr := Lib.hid cpr
      replace cck := Lib.hid cck
      go_wp2_with fail
      refine cpr.out.mono ?_
      rintro e w4 ⟨rfl, hb4⟩
      have c5 := cck.out w4 hb4
      have hbel4 := hbel.trans (hb4.mono hbel.size)
      replace c5 := Lib.hid c5
      clear cpr cck
      go_wp2_with fail
      refine c5.out.mono ?_
      rintro e w5 ⟨rfl, hb5⟩
      go_wp2
      go_ret
      exact ⟨rfl, hbel4.trans (hb5.mono hbel4.size)⟩

end Go.Proofs.Ytgjcdhcbniholaa.Of
