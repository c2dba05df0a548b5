/- The stage's theorem on quantiles: plain facts, then the walk. -/
import Derived.Test.YtonacegkhkncmaaRkW
namespace Go.Proofs.Ytonacegkhkncmaa.Rk
open Go.RowKit Go.Proofs.Ytonacegkhkncmaa.Sl Go.Proofs.Ytonacegkhkncmaa.Bk
set_option linter.unusedVariables false

theorem idx_mono {p x y : Int} (hp : good p) (h0 : 0 ≤ x) (h : x ≤ y) : idxI p x ≤ idxI p y := by
  rw [idxI, idxI, if_pos ⟨hp, h0⟩, if_pos ⟨hp, by omega⟩]
  have := BkM.bk_mono (p := p.toNat) (v := x.toNat) (w := y.toNat) (by omega)
  omega
theorem hig_mono {p i j : Int} (hp : good p) (h0 : 0 ≤ i) (h : i ≤ j) (hj : j < lenI p) : higI p i ≤ higI p j := by
  obtain ⟨h1, h2⟩ := id hp
  obtain ⟨n, rfl⟩ := Int.eq_ofNat_of_zero_le (a := p) (by omega)
  obtain ⟨a, rfl⟩ := Int.eq_ofNat_of_zero_le h0
  obtain ⟨b, rfl⟩ := Int.eq_ofNat_of_zero_le (show 0 ≤ j by omega)
  rw [lenI_nat hp] at hj
  rw [higI_nat hp (by omega), higI_nat hp (by omega)]
  rcases Nat.eq_or_lt_of_le (show a ≤ b by omega) with e | e
  · rw [e]; exact Int.le_refl _
  · have := BkM.lo_lt (p := n) e; omega

/-- All that the law asks, of sorted values s. -/
theorem quant_facts {p num den : Int} (hp : good p) (s : List Int) (hs : s.Pairwise (· ≤ ·)) (hx : ∀ x ∈ s, 0 ≤ x ∧ x ≤ 9223372036854775807) (h0 : 0 ≤ num) (h1 : num ≤ den) (h2 : 1 ≤ den) (hd : den ≤ 9223372036854775807) (hlen : 1 ≤ s.length) (hlen2 : s.length ≤ 9223372036854775807)
    (cs : List (Int × Int)) (hcs : cs = cntK (s.map (idxI p))) (r : Nat) (hr : r = rankI s.length num den) :
    (s.map (idxI p)).Pairwise (· ≤ ·) ∧ (∀ c ∈ cs, okC c) ∧ cs.length ≤ 1048576 ∧ mayE p cs = 0 ∧ 1 ≤ r ∧ r ≤ s.length ∧ rankE s.length num den = 0 ∧ quaE p cs num den = 0 ∧
      (∃ v, s[r - 1]? = some v ∧ 0 ≤ v ∧ v ≤ 9223372036854775807 ∧ v ≤ quaI p cs num den ∧ quaI p cs num den ≤ 9223372036854775807 ∧ quaI p cs num den - v ≤ v / 2 ^ p.toNat ∧ (r : Int) ≤ atmI p (quaI p cs num den) cs) ∧ ∀ v, atmI p v cs = ((s.countP (inB p v) : Nat) : Int) := by
  have hks : (s.map (idxI p)).Pairwise (· ≤ ·) := by
    rw [List.pairwise_map]
    refine List.Pairwise.imp_of_mem ?_ hs
    intro a b ha hb hab
    exact idx_mono hp (hx a ha).1 hab
  have hinv := inv_of_sorted _ hks
  have hsm := cnt_small hp hks hx
  rw [← hcs] at hinv hsm
  obtain ⟨m1, m2, m3⟩ := hsm
  have hN := lenI_rng p
  have hok : ∀ c ∈ cs, okC c := fun c hc => by
    have := m1 c hc
    have h3 := mem_le_sum cs (fun c hc => (m1 c hc).2.2) c hc
    unfold okC; omega
  have hmay : mayE p cs = 0 := by
    have hc := chk_ok p cs none hinv.rise (fun c hc => (m1 c hc).2.2) (fun c hc => ⟨(m1 c hc).1, (m1 c hc).2.1⟩) (fun q hq => by cases hq)
    rw [mayE, if_neg (by simpa using hp), hc]
    simp only [ne_eq, not_true, if_false]
    rw [if_neg (by omega)]
  have hrk := rank_is (n := s.length) h0 h1 h2 hlen
  have hE : rankE s.length num den = 0 := by rw [rankE, if_neg (by omega), if_neg (by omega)]
  rw [← hr] at hrk
  obtain ⟨_, _, r1, r2⟩ := hrk
  have htot : totN cs = s.length := by
    have := totF_sum cs 0 (by omega) (fun c hc => by have := m1 c hc; omega) (by omega)
    rw [totN, this, m3]; omega
  have hq : quaR cs num den = r := by rw [quaR, htot, ← hr]
  have hat : atF (r : Int) cs = some (idxI p (s[r - 1]'(by omega))) := by
    rw [atF_expand cs r (fun c hc => (m1 c hc).2.2) r1 (by rw [hinv.exp, List.length_map]; exact r2), hinv.exp, List.getElem?_map, List.getElem?_eq_getElem (by omega)]
    rfl
  have hatI : atI cs (quaR cs num den) = idxI p (s[r - 1]'(by omega)) := by rw [hq, atI, if_neg (by omega), hat]; rfl
  have hatE : atE cs (quaR cs num den) = 0 := by rw [hq, atE, if_neg (by omega), hat]; rfl
  obtain ⟨v, hv⟩ : ∃ v, v = s[r - 1]'(by omega) := ⟨_, rfl⟩
  rw [← hv] at hatI
  have hvm : v ∈ s := by rw [hv]; exact List.getElem_mem _
  obtain ⟨v1, v2⟩ := hx v hvm
  obtain ⟨f1, f2, f3, f4, f5, f6, _⟩ := holds_facts hp v1 v2
  have hqE : quaE p cs num den = 0 := by simp [quaE, hmay, htot, hE, hatE, hatI, f1]
  have hqI : quaI p cs num den = higI p (idxI p v) := by simp [quaI, hmay, htot, hE, hatE, hatI]
  have hatm : ∀ v, atmI p v cs = ((s.countP (inB p v) : Nat) : Int) := by
    intro v
    rw [atmI, if_pos hmay]
    have := atmF_expand p v cs 0 (fun c hc => (m1 c hc).2.2) (by rw [hinv.exp, List.length_map]; omega)
    rw [hinv.exp, List.countP_map, Nat.zero_add] at this
    exact this
  refine ⟨hks, hok, m2, hmay, r1, r2, hE, hqE, ⟨v, by rw [hv]; exact List.getElem?_eq_getElem _, v1, v2, by rw [hqI]; exact f3, by rw [hqI]; exact (@lo_rng p (idxI p v)).2.2, by rw [hqI]; exact f4, ?_⟩, hatm⟩
  rw [hatm, hqI]
  have hle : (s.take r).countP (inB p (higI p (idxI p v))) ≤ s.countP (inB p (higI p (idxI p v))) := List.Sublist.countP_le (List.take_sublist _ _)
  have hall : (s.take r).countP (inB p (higI p (idxI p v))) = (s.take r).length := by
    rw [List.countP_eq_length]
    intro x hxm
    obtain ⟨i, hi, e⟩ := List.mem_iff_getElem.1 hxm
    rw [List.length_take] at hi
    rw [List.getElem_take] at e
    have hxv : x ≤ v := by
      rw [hv, ← e]
      rcases Nat.lt_or_ge i (r - 1) with h | h
      · exact List.pairwise_iff_getElem.1 hs i (r - 1) (by omega) (by omega) h
      · have : i = r - 1 := by omega
        subst this; exact Int.le_refl _
    have hx0 := hx x (List.mem_of_mem_take hxm)
    exact decide_eq_true (hig_mono hp (holds_facts hp hx0.1 hx0.2).2.2.2.2.1 (idx_mono hp hx0.1 hxv) f6)
  rw [hall, List.length_take] at hle
  omega
end Go.Proofs.Ytonacegkhkncmaa.Rk
