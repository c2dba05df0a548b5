/- The law's test 'within', and the stage's theorem on quantiles: the walk. -/
import Derived.Test.YtonacegkhkncmaaRkX
namespace Go.Proofs.Ytonacegkhkncmaa.Rk
open Go.RowKit Go.Proofs.Ytonacegkhkncmaa.Sl Go.Proofs.Ytonacegkhkncmaa.Bk
set_option linter.unusedVariables false

def inB (p v x : Int) : Bool := decide (higI p (idxI p x) ≤ v)
theorem countP_snoc (f : Int → Bool) {l : List Int} {k : Nat} (h : k < l.length) : (l.take (k + 1)).countP f = (l.take k).countP f + if f l[k] then 1 else 0 := by
  rw [take_snoc h, List.countP_append]; simp [List.countP_cons]

set_option maxRecDepth 100000 in
set_option maxHeartbeats 1000000 in
theorem within_any (w : World) (B : Nat) (p v : Int) (A C : Option Addr) (l : List Int) (cap ccap : Nat) (cs : List (Int × Int)) (hp : good p) (hl : Rd w B 1 A (ic l) l.length) (hlen : l.length ≤ 9223372036854775807) (hx : ∀ x ∈ l, 0 ≤ x ∧ x ≤ 9223372036854775807)
    (hc : Cs w B C cs) (hm : mayE p cs = 0) (hcnt : atmI p v cs = ((l.countP (inB p v) : Nat) : Int)) (hB : B ≤ w.heap.size) :
    Calls Try.prog 29 #[.int .i64 p, .slice A l.length cap, .slice C cs.length ccap, .int .i64 v] w fun e w' => e = .returned (.bool true) ∧ Below w.heap.size w w' := by
  replace hx := Lib.hid hx
  replace hm := Lib.hid hm
  replace hcnt := Lib.hid hcnt
  have hp' := Lib.hid hp
  go_enter Try.func29, Try.ntmps29
  go_wp2_with fail
  go_loopw [9, 10] (fun n i wr => ∃ (k m : Nat), k ≤ l.length ∧ i = .int .i64 k ∧ n = .int .u64 m ∧ Below w.heap.size w wr ∧ Hid (m = (l.take k).countP (inB p v))) (fun _ i _ => l.length - (intOf i).toNat)
  case atStart => exact ⟨0, 0, Nat.zero_le _, rfl, rfl, Below.refl _ _, rfl⟩
  case round =>
    obtain ⟨k, m, hk, rfl, rfl, hb, hmk⟩ := hrel
    have hmle : m ≤ k := by
      have := List.countP_le_length (p := inB p v) (l := l.take k)
      rw [← hmk.out, List.length_take] at this; omega
    by_cases hlt : k < l.length
    · obtain ⟨b, off, rfl, hbB, hcc⟩ := (hl.below (hb.mono hB)).cells (by omega)
      have h1 := hcc k (.int .i64 l[k]) (by simp [ic, hlt])
      clear hcc
      obtain ⟨x1, x2⟩ := hx.out l[k] (List.getElem_mem hlt)
      have hf := holds_facts hp x1 x2
      have hs := (idx_small (p := p) (v := l[k])).2 x2
      have hs0 := (idx_small (p := p) (v := l[k])).1
      have hnext := countP_snoc (inB p v) hlt
      have ci := index_any p l[k] x2
      rw [idxE_ok hp x1] at ci
      have ch := high_any p (idxI p l[k]) (by omega) (by omega)
      rw [hf.1] at ch
      have hinb : inB p v l[k] = decide (higI p (idxI p l[k]) ≤ v) := rfl
      generalize l[k] = x at *
      generalize idxI p x = j at *
      generalize higI p j = H at *
      rw [← hmk.out, hinb] at hnext
      replace hnext := Lib.hid hnext
      clear hf hs hs0 hinb hp
      by_cases hv : H ≤ v
      · go_wp2_with (first | (go_at_call 13; refine (ci _).mono ?_; rintro e w1 ⟨rfl, nq, rfl⟩) | (go_at_call 17; refine (ch _).mono ?_; rintro e w1 ⟨rfl, nr, rfl⟩))
        exact ⟨⟨k + 1, m + 1, by omega, by go_num, by go_num, below_drewN hb _, by have := hnext.out; rw [if_pos (decide_eq_true hv)] at this; exact this.symm⟩, by simp [intOf]; omega⟩
      · go_wp2_with (first | (go_at_call 13; refine (ci _).mono ?_; rintro e w1 ⟨rfl, nq, rfl⟩) | (go_at_call 17; refine (ch _).mono ?_; rintro e w1 ⟨rfl, nr, rfl⟩))
        exact ⟨⟨k + 1, m, by omega, by go_num, rfl, below_drewN hb _, by have := hnext.out; rw [if_neg (by simp; omega)] at this; exact this.symm⟩, by simp [intOf]; omega⟩
    · have hmm : atmI p v cs = m := by
        rw [hcnt.out, hmk.out, List.take_of_length_le (by omega)]
      have ca := atMost_any wr B p v cs C ccap (hc.below (hb.mono hB)) (Nat.le_trans hB hb.size)
      rw [hmm, hm.out] at ca
      replace hmm := Lib.hid hmm
      clear hmk
      go_wp2_with (go_at_call 27; refine ca.mono ?_; rintro e w1 ⟨rfl, hb1⟩)
      go_ret
      exact ⟨rfl, hb.trans (hb1.mono hb.size)⟩
end Go.Proofs.Ytonacegkhkncmaa.Rk
