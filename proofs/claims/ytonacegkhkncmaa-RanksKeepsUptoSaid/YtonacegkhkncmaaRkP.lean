/- Counts of a rising row of buckets: plain. -/
import Derived.Test.YtonacegkhkncmaaRkQ
import Derived.Test.YtonacegkhkncmaaBkH
namespace Go.Proofs.Ytonacegkhkncmaa.Rk
open Go.RowKit Go.Proofs.Ytonacegkhkncmaa.Bk
set_option linter.unusedVariables false

/-- One more value, in the bucket k. -/
def stepC (cs : List (Int × Int)) (k : Int) : List (Int × Int) :=
  match cs.getLast? with
  | some c => if c.1 = k then cs.dropLast ++ [(c.1, c.2 + 1)] else cs ++ [(k, 1)]
  | none => [(k, 1)]
theorem stepC_same (cs : List (Int × Int)) (k n : Int) : stepC (cs ++ [(k, n)]) k = cs ++ [(k, n + 1)] := by simp [stepC]
theorem stepC_other (cs : List (Int × Int)) (j n k : Int) (h : j ≠ k) : stepC (cs ++ [(j, n)]) k = cs ++ [(j, n)] ++ [(k, 1)] := by simp [stepC, h]
theorem stepC_nil (k : Int) : stepC [] k = [] ++ [(k, 1)] := rfl

def cntK (ks : List Int) : List (Int × Int) := ks.foldl stepC []
theorem cntK_snoc (ks : List Int) (k : Int) : cntK (ks ++ [k]) = stepC (cntK ks) k := by simp [cntK]

def expand (cs : List (Int × Int)) : List Int := cs.flatMap fun c => List.replicate c.2.toNat c.1

/-- Counts that stand for the row ks: rising, none empty. -/
structure Inv (ks : List Int) (cs : List (Int × Int)) : Prop where
  rise : (cs.map (·.1)).Pairwise (· < ·)
  pos : ∀ c ∈ cs, 1 ≤ c.2
  exp : expand cs = ks

theorem Inv.nil : Inv [] [] := ⟨by simp, by simp, rfl⟩
theorem Inv.step {ks : List Int} {cs : List (Int × Int)} (h : Inv ks cs) (k : Int) (hk : ∀ j ∈ ks, j ≤ k) : Inv (ks ++ [k]) (stepC cs k) := by
  rcases List.eq_nil_or_concat cs with rfl | ⟨r, ⟨j, n⟩, rfl⟩
  · have := h.exp
    simp [expand] at this
    subst this
    exact ⟨by simp [stepC], by simp [stepC], by simp [stepC, expand]⟩
  · rw [List.concat_eq_append] at h ⊢
    have hn := h.pos (j, n) (by simp)
    simp only at hn
    have hjks : j ∈ ks := by
      rw [← h.exp]
      exact List.mem_flatMap.2 ⟨(j, n), by simp, by simp; omega⟩
    have hjk := hk j hjks
    have hr := h.rise
    rw [List.map_append, List.pairwise_append] at hr
    by_cases e : j = k
    · subst e
      rw [stepC_same]
      refine ⟨by have := h.rise; simpa using this, fun c hc => ?_, ?_⟩
      · rcases List.mem_append.1 hc with hc | hc
        · exact h.pos c (by simp [hc])
        · rw [List.mem_singleton.1 hc]; show 1 ≤ n + 1; omega
      · rw [← h.exp]
        have e2 : (n + 1).toNat = n.toNat + 1 := by omega
        simp [expand, e2, List.replicate_succ']
    · rw [stepC_other _ _ _ _ e]
      refine ⟨?_, fun c hc => ?_, ?_⟩
      · rw [List.map_append, List.pairwise_append]
        refine ⟨h.rise, by simp, fun a ha b hb => ?_⟩
        simp at hb
        subst hb
        rw [List.map_append] at ha
        rcases List.mem_append.1 ha with ha | ha
        · have := hr.2.2 a ha j (by simp); omega
        · simp at ha; omega
      · rcases List.mem_append.1 hc with hc | hc
        · exact h.pos c hc
        · rw [List.mem_singleton.1 hc]; show (1 : Int) ≤ 1; omega
      · rw [← h.exp]; simp [expand]

theorem inv_of_sorted (ks : List Int) (h : ks.Pairwise (· ≤ ·)) : Inv ks (cntK ks) := by
  have : ∀ (n : Nat) (ks : List Int), ks.length = n → ks.Pairwise (· ≤ ·) → Inv ks (cntK ks) := by
    intro n
    induction n with
    | zero => intro ks hl _; rw [List.eq_nil_of_length_eq_zero hl]; exact Inv.nil
    | succ n ih =>
      intro ks hl h
      rcases List.eq_nil_or_concat ks with rfl | ⟨r, k, rfl⟩
      · exact Inv.nil
      · rw [List.concat_eq_append] at h hl ⊢
        rw [List.pairwise_append] at h
        rw [cntK_snoc]
        exact (ih r (by simp at hl; omega) h.1).step k (fun j hj => h.2.2 j hj k (by simp))
  exact this ks.length ks rfl h

theorem expand_len (cs : List (Int × Int)) (h : ∀ c ∈ cs, 1 ≤ c.2) : ((expand cs).length : Int) = sumN cs := by
  induction cs with
  | nil => simp [expand, sumN]
  | cons c r ih =>
    have h1 := h c (by simp)
    have := ih fun x hx => h x (by simp [hx])
    simp only [expand, List.flatMap_cons, List.length_append, List.length_replicate, sumN, List.map_cons, List.sum_cons] at this ⊢
    omega

theorem len_le_expand (cs : List (Int × Int)) (h : ∀ c ∈ cs, 1 ≤ c.2) : cs.length ≤ (expand cs).length := by
  induction cs with
  | nil => simp
  | cons c r ih =>
    have h1 := h c (by simp)
    have := ih fun x hx => h x (by simp [hx])
    simp only [expand, List.flatMap_cons, List.length_append, List.length_replicate, List.length_cons] at this ⊢
    omega

/-- Rising numbers below N, from 0 on, are at most N. -/
theorem rise_len : ∀ (l : List Int) (a N : Int), l.Pairwise (· < ·) → (∀ x ∈ l, a ≤ x ∧ x < N) → (l.length : Int) ≤ max 0 (N - a)
  | [], a, N, _, _ => by simp; omega
  | x :: r, a, N, h, hb => by
    have h1 := List.pairwise_cons.1 h
    have h2 := hb x (by simp)
    have := rise_len r (x + 1) N h1.2 (fun y hy => ⟨by have := h1.1 y hy; omega, (hb y (by simp [hy])).2⟩)
    simp only [List.length_cons]; omega

theorem atF_expand : ∀ (cs : List (Int × Int)) (n : Nat), (∀ c ∈ cs, 1 ≤ c.2) → 1 ≤ n → n ≤ (expand cs).length → atF n cs = (expand cs)[n - 1]?
  | [], n, _, h1, h2 => by simp [expand] at h2; omega
  | c :: r, n, h, h1, h2 => by
    have hc := h c (by simp)
    have e : expand (c :: r) = List.replicate c.2.toNat c.1 ++ expand r := by simp [expand]
    rw [e] at h2 ⊢
    rw [List.length_append, List.length_replicate] at h2
    by_cases hn : (n : Int) ≤ c.2
    · simp only [atF, if_pos hn]
      rw [List.getElem?_append_left (by simp; omega), List.getElem?_replicate, if_pos (by omega)]
    · simp only [atF, if_neg hn]
      have := atF_expand r (n - c.2.toNat) (fun x hx => h x (by simp [hx])) (by omega) (by omega)
      rw [List.getElem?_append_right (by simp; omega), List.length_replicate, show n - 1 - c.2.toNat = n - c.2.toNat - 1 by omega, ← this]
      congr 1; omega

theorem countP_rep (f : Int → Bool) (n : Nat) (a : Int) : (List.replicate n a).countP f = if f a then n else 0 := by
  rw [List.countP_replicate]

theorem atmF_expand (p v : Int) : ∀ (cs : List (Int × Int)) (n : Nat), (∀ c ∈ cs, 1 ≤ c.2) → n + (expand cs).length ≤ 18446744073709551615 →
    atmF p v n cs = ((n + (expand cs).countP fun k => decide (higI p k ≤ v) : Nat) : Int)
  | [], n, _, _ => by simp [atmF, expand]
  | c :: r, n, h, hb => by
    have hc := h c (by simp)
    have e : expand (c :: r) = List.replicate c.2.toNat c.1 ++ expand r := by simp [expand]
    rw [e, List.length_append, List.length_replicate] at hb
    rw [e, List.countP_append, countP_rep]
    have ih := fun m hm => atmF_expand p v r m (fun x hx => h x (by simp [hx])) hm
    have e2 : atmF p v n (c :: r) = atmF p v (if higI p c.1 ≤ v then IntKind.u64.wrap (n + c.2) else n) r := rfl
    rw [e2]
    by_cases hv : higI p c.1 ≤ v
    · rw [if_pos hv]
      have e3 : IntKind.u64.wrap ((n : Int) + c.2) = ((n + c.2.toNat : Nat) : Int) := by rw [IntWalk.u64_in _ (by omega)]; omega
      rw [e3, ih _ (by omega)]
      simp [hv]; omega
    · rw [if_neg hv, ih _ (by omega)]
      simp [hv]

theorem chk_ok (p : Int) : ∀ (cs : List (Int × Int)) (prev : Option Int), (cs.map (·.1)).Pairwise (· < ·) → (∀ c ∈ cs, 1 ≤ c.2) → (∀ c ∈ cs, 0 ≤ c.1 ∧ c.1 < lenI p) → (∀ q, prev = some q → ∀ c ∈ cs, q < c.1) → chk p prev cs = 0
  | [], _, _, _, _, _ => by unfold chk; rfl
  | c :: r, prev, h1, h2, h3, h4 => by
    have a := h2 c (by simp)
    have b := h3 c (by simp)
    rw [chk, if_neg (by omega), if_neg, if_neg (by omega)]
    · rw [List.map_cons, List.pairwise_cons] at h1
      refine chk_ok p r (some c.1) h1.2 (fun x hx => h2 x (by simp [hx])) (fun x hx => h3 x (by simp [hx])) (fun q hq x hx => ?_)
      cases hq
      exact h1.1 x.1 (List.mem_map.2 ⟨x, hx, rfl⟩)
    · rintro ⟨q, hq, hle⟩
      have := h4 q hq c (by simp); omega

theorem totF_sum : ∀ (cs : List (Int × Int)) (n : Int), 0 ≤ n → (∀ c ∈ cs, 0 ≤ c.2) → n + sumN cs ≤ 18446744073709551615 → totF n cs = n + sumN cs
  | [], n, _, _, _ => by simp [totF, sumN]
  | c :: r, n, h0, h, hb => by
    have hc := h c (by simp)
    have hs : 0 ≤ sumN r := by
      clear hb
      induction r with
      | nil => simp [sumN]
      | cons d t ih =>
        have := ih fun x hx => h x (by simp at hx ⊢; rcases hx with hx | hx <;> simp [hx])
        have := h d (by simp)
        simp only [sumN, List.map_cons, List.sum_cons] at *; omega
    have e : sumN (c :: r) = c.2 + sumN r := by simp [sumN]
    rw [e] at hb ⊢
    have e2 : totF n (c :: r) = totF (IntKind.u64.wrap (n + c.2)) r := rfl
    rw [e2, IntWalk.u64_in _ (by omega), totF_sum r _ (by omega) (fun x hx => h x (by simp [hx])) (by omega)]; omega
end Go.Proofs.Ytonacegkhkncmaa.Rk
