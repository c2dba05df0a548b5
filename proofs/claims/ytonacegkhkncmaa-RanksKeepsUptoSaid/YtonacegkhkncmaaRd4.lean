/- What merged counts add up to: plain. -/
import Derived.Test.YtonacegkhkncmaaMg0
import Derived.Test.YtonacegkhkncmaaRkV
import Derived.Test.YtonacegkhkncmaaMg3
namespace Go.Proofs.Ytonacegkhkncmaa.Rk
open Go.RowKit Go.Proofs.Ytonacegkhkncmaa.Bk Go.Proofs.Ytonacegkhkncmaa.Mg Go.Proofs.Ytonacegkhkncmaa.St
set_option linter.unusedVariables false

theorem sumN_tW : ∀ l : List (Int × Int), sumN l = tW (fun _ => true) l
  | [] => by simp [sumN, tW]
  | c :: r => by
    rw [tW_cons, ← sumN_tW r]; simp [sumN]
theorem totF_tW : ∀ (l : List (Int × Int)) (n : Int), totF n l % two64 = (n + tW (fun _ => true) l) % two64
  | [], n => by simp [totF, tW_nil]
  | c :: r, n => by
    have e : totF n (c :: r) = totF (IntKind.u64.wrap (n + c.2)) r := rfl
    rw [e, totF_tW r, tW_cons, IntKind.wrap_u64]
    simp only [two64, if_true]; omega
theorem totF_mod (l : List (Int × Int)) : totF 0 l = tW (fun _ => true) l % two64 := by
  have h := totF_rng l
  have := totF_tW l 0
  simp only [two64] at *
  omega
theorem atmF_tW (p v : Int) : ∀ (l : List (Int × Int)) (n : Int), atmF p v n l % two64 = (n + tW (fun k => decide (higI p k ≤ v)) l) % two64
  | [], n => by simp [atmF, tW_nil]
  | c :: r, n => by
    have e : atmF p v n (c :: r) = atmF p v (if higI p c.1 ≤ v then IntKind.u64.wrap (n + c.2) else n) r := rfl
    rw [e, atmF_tW p v r, tW_cons]
    by_cases h : higI p c.1 ≤ v
    · rw [if_pos h, if_pos (by simpa using h), IntKind.wrap_u64]
      simp only [two64]; omega
    · rw [if_neg h, if_neg (by simpa using h)]
      simp only [two64]; omega
theorem atmF_rng (p v : Int) : ∀ (l : List (Int × Int)) (n : Int), 0 ≤ n ∧ n < two64 → 0 ≤ atmF p v n l ∧ atmF p v n l < two64
  | [], n, h => by simpa [atmF] using h
  | c :: r, n, h => by
    have e : atmF p v n (c :: r) = atmF p v (if higI p c.1 ≤ v then IntKind.u64.wrap (n + c.2) else n) r := rfl
    rw [e]
    refine atmF_rng p v r _ ?_
    split
    · rw [IntKind.wrap_u64]; simp only [two64]; omega
    · exact h
theorem atmF_mod (p v : Int) (l : List (Int × Int)) : atmF p v 0 l = tW (fun k => decide (higI p k ≤ v)) l % two64 := by
  have h := atmF_rng p v l 0 (by simp only [two64]; omega)
  have := atmF_tW p v l 0
  simp only [two64] at *
  omega

theorem chk_facts (p : Int) : ∀ (cs : List (Int × Int)) (prev : Option Int), chk p prev cs = 0 → Rise cs ∧ (∀ c ∈ cs, 0 ≤ c.1 ∧ c.1 < lenI p ∧ c.2 ≠ 0) ∧ (∀ q, prev = some q → ∀ c ∈ cs, q < c.1)
  | [], _, _ => ⟨List.Pairwise.nil, fun c hc => absurd hc (by simp), fun _ _ c hc => absurd hc (by simp)⟩
  | c :: r, prev, h => by
    rw [chk] at h
    by_cases h1 : c.1 < 0 ∨ lenI p ≤ c.1
    · rw [if_pos h1] at h; omega
    · rw [if_neg h1] at h
      by_cases h2 : ∃ q, prev = some q ∧ c.1 ≤ q
      · rw [if_pos h2] at h; omega
      · rw [if_neg h2] at h
        by_cases h3 : c.2 = 0
        · rw [if_pos h3] at h; omega
        · rw [if_neg h3] at h
          obtain ⟨i1, i2, i3⟩ := chk_facts p r (some c.1) h
          have h4 : ∀ q, prev = some q → q < c.1 := fun q hq => Int.not_le.1 fun hle => h2 ⟨q, hq, hle⟩
          refine ⟨List.pairwise_cons.2 ⟨fun y hy => i3 c.1 rfl y hy, i1⟩, fun x hx => ?_, fun q hq x hx => ?_⟩
          · rcases List.mem_cons.1 hx with rfl | hx
            · exact ⟨by omega, by omega, h3⟩
            · exact i2 x hx
          · rcases List.mem_cons.1 hx with rfl | hx
            · exact h4 q hq
            · have := i3 c.1 rfl x hx; have := h4 q hq; omega

theorem may_facts {p : Int} {l : List (Int × Int)} (h : mayE p l = 0) : good p ∧ Rise l ∧ (∀ c ∈ l, 0 ≤ c.1 ∧ c.1 < lenI p ∧ c.2 ≠ 0) ∧ tW (fun _ => true) l ≤ 9223372036854775807 := by
  unfold mayE at h
  by_cases hg : good p
  · rw [if_neg (by simpa using hg)] at h
    by_cases hc : chk p none l ≠ 0
    · rw [if_pos hc] at h; exact absurd h hc
    · rw [if_neg hc] at h
      obtain ⟨c1, c2, _⟩ := chk_facts p l none (Classical.not_not.1 hc)
      refine ⟨hg, c1, c2, ?_⟩
      rw [← sumN_tW]
      by_cases hs : 9223372036854775807 < sumN l
      · rw [if_pos hs] at h; omega
      · omega
  · rw [if_pos hg] at h; omega

theorem merges_perm {l m : List (Int × Int)} (h1 : ∀ c ∈ l, okC c) (h2 : ∀ c ∈ m, okC c) : mrg (m ++ l) = mrg (l ++ m) :=
  mrg_perm List.perm_append_comm (okC_okN fun c hc => (List.mem_append.1 hc).elim (h2 c) (h1 c))
theorem merges_tot {l m : List (Int × Int)} (h1 : ∀ c ∈ l, okC c) (h2 : ∀ c ∈ m, okC c) : totF 0 (mrg (l ++ m)) = IntKind.u64.wrap (totF 0 l + totF 0 m) := by
  have ho : okN (l ++ m) := okC_okN fun c hc => (List.mem_append.1 hc).elim (h1 c) (h2 c)
  have := (mrg_facts _ ho).2.2.2.1 (fun _ => true)
  rw [tW_append] at this
  rw [totF_mod, totF_mod, totF_mod, IntKind.wrap_u64]
  simp only [two64] at *
  omega
theorem merges_self {p : Int} {l : List (Int × Int)} (h1 : ∀ c ∈ l, okC c) (h : mayE p l = 0) : mrg l = l := by
  obtain ⟨_, r, f, _⟩ := may_facts h
  exact mrg_self r (fun c hc => (f c hc).2.2) (okC_okN h1)
theorem merges_may {p : Int} {l m : List (Int × Int)} (h1 : ∀ c ∈ l, okC c) (h2 : ∀ c ∈ m, okC c) (e1 : mayE p l = 0) (e2 : mayE p m = 0) :
    mayE p (mrg (l ++ m)) = (if 9223372036854775807 < totF 0 (mrg (l ++ m)) then 3 else 0) ∧
    (¬ 9223372036854775807 < totF 0 (mrg (l ++ m)) → ∀ v, atmI p v (mrg (l ++ m)) = IntKind.u64.wrap (atmI p v l + atmI p v m)) := by
  obtain ⟨hg, r1, f1, s1⟩ := may_facts e1
  obtain ⟨_, r2, f2, s2⟩ := may_facts e2
  have ho : okN (l ++ m) := okC_okN fun c hc => (List.mem_append.1 hc).elim (h1 c) (h2 c)
  obtain ⟨m1, m2, _, _, m5⟩ := mrg_facts _ ho
  have n1 := tW_nonneg (fun _ => true) (okC_okN h1)
  have n2 := tW_nonneg (fun _ => true) (okC_okN h2)
  have hfit : tW (fun _ => true) (l ++ m) < two64 := by rw [tW_append]; simp only [two64]; omega
  have hs : tW (fun _ => true) (mrg (l ++ m)) = tW (fun _ => true) l + tW (fun _ => true) m := by rw [m5 hfit, tW_append]
  have ht : totF 0 (mrg (l ++ m)) = sumN (mrg (l ++ m)) := by
    rw [totF_mod, sumN_tW, hs]; simp only [two64]; omega
  have hc : chk p none (mrg (l ++ m)) = 0 := by
    refine chk_ok p _ none (by rw [List.pairwise_map]; exact m1) (fun c hc => by have := (m2 c hc).2.1; omega) (fun c hc => ?_) (fun q hq => by cases hq)
    obtain ⟨⟨d, hd, e⟩, _⟩ := m2 c hc
    rw [← e]
    rcases List.mem_append.1 hd with hd | hd
    · exact ⟨(f1 d hd).1, (f1 d hd).2.1⟩
    · exact ⟨(f2 d hd).1, (f2 d hd).2.1⟩
  have hm : mayE p (mrg (l ++ m)) = (if 9223372036854775807 < totF 0 (mrg (l ++ m)) then 3 else 0) := by
    rw [mayE, if_neg (by simpa using hg), hc, if_neg (by omega), ht]
  refine ⟨hm, fun hn v => ?_⟩
  rw [if_neg hn] at hm
  rw [atmI, if_pos hm, atmI, if_pos e1, atmI, if_pos e2, atmF_mod, atmF_mod, atmF_mod, m5 hfit, tW_append, IntKind.wrap_u64]
  have := tW_nonneg (fun k => decide (higI p k ≤ v)) (okC_okN h1)
  have := tW_nonneg (fun k => decide (higI p k ≤ v)) (okC_okN h2)
  have := tW_le (fun k => decide (higI p k ≤ v)) (okC_okN h1)
  have := tW_le (fun k => decide (higI p k ≤ v)) (okC_okN h2)
  simp only [two64]
  omega
end Go.Proofs.Ytonacegkhkncmaa.Rk
