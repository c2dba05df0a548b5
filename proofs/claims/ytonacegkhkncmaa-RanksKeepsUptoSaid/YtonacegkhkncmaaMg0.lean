/- Counts of two lists brought together, plain: equal indices become one, what comes to nothing goes. -/
import Derived.Test.YtonacegkhkncmaaSt0
namespace Go.Proofs.Ytonacegkhkncmaa.Mg
open Go.Proofs.Ytonacegkhkncmaa.St
set_option linter.unusedVariables false
set_option linter.unusedSimpArgs false

/-- Numbers of 64 bits go round here. -/
def two64 : Int := 18446744073709551616
theorem two64_eq : two64 = 18446744073709551616 := rfl

/-- One more count, of an index no less than the last one. -/
def stp (out : List Cnt) (c : Cnt) : List Cnt :=
  match out.getLast? with
  | some d => if d.1 = c.1 then out.dropLast ++ [(d.1, (d.2 + c.2) % two64)] else out ++ [c]
  | none => [c]
def clp (s : List Cnt) : List Cnt := s.foldl stp []
def nz (l : List Cnt) : List Cnt := l.filter fun c => decide (c.2 ≠ 0)
def Rise (l : List Cnt) : Prop := l.Pairwise fun x y => x.1 < y.1
/-- The sum of the counts whose index is of a kind. -/
def tW (q : Int → Bool) (l : List Cnt) : Int := ((l.filter fun c => q c.1).map (·.2)).sum
def okN (l : List Cnt) : Prop := ∀ c ∈ l, 0 ≤ c.2 ∧ c.2 < two64

theorem clp_snoc (s : List Cnt) (c : Cnt) : clp (s ++ [c]) = stp (clp s) c := by simp [clp]
theorem stp_nil (c : Cnt) : stp [] c = [c] := rfl
theorem stp_same (r : List Cnt) (j n m : Int) : stp (r ++ [(j, n)]) (j, m) = r ++ [(j, (n + m) % two64)] := by simp [stp]
theorem stp_other (r : List Cnt) (d c : Cnt) (h : d.1 ≠ c.1) : stp (r ++ [d]) c = r ++ [d, c] := by simp [stp, h]

theorem tW_append (q : Int → Bool) (a b : List Cnt) : tW q (a ++ b) = tW q a + tW q b := by simp [tW, List.filter_append]
theorem tW_cons (q : Int → Bool) (c : Cnt) (b : List Cnt) : tW q (c :: b) = (if q c.1 then c.2 else 0) + tW q b := by
  unfold tW
  rw [List.filter_cons]
  split <;> simp
theorem tW_nil (q : Int → Bool) : tW q [] = 0 := rfl
theorem tW_one (q : Int → Bool) (c : Cnt) : tW q [c] = if q c.1 then c.2 else 0 := by rw [tW_cons, tW_nil]; omega
theorem tW_perm (q : Int → Bool) {a b : List Cnt} (h : a.Perm b) : tW q a = tW q b := by
  induction h with
  | nil => rfl
  | cons x _ ih => rw [tW_cons, tW_cons, ih]
  | swap x y l => rw [tW_cons, tW_cons, tW_cons, tW_cons]; omega
  | trans _ _ i1 i2 => rw [i1, i2]
theorem tW_nonneg (q : Int → Bool) : ∀ {l : List Cnt}, okN l → 0 ≤ tW q l
  | [], _ => by simp [tW_nil]
  | c :: r, h => by
    have := tW_nonneg q (l := r) (fun x hx => h x (List.mem_cons_of_mem _ hx))
    have := (h c (List.mem_cons_self ..)).1
    rw [tW_cons]; split <;> omega
theorem tW_le (q : Int → Bool) : ∀ {l : List Cnt}, okN l → tW q l ≤ tW (fun _ => true) l
  | [], _ => by simp [tW_nil]
  | c :: r, h => by
    have := tW_le q (l := r) (fun x hx => h x (List.mem_cons_of_mem _ hx))
    have := (h c (List.mem_cons_self ..)).1
    rw [tW_cons, tW_cons]; simp only [if_true]; split <;> omega

theorem okN_stp {o : List Cnt} {c : Cnt} (ho : okN o) (hc : 0 ≤ c.2 ∧ c.2 < two64) : okN (stp o c) := by
  rcases List.eq_nil_or_concat o with rfl | ⟨r, d, rfl⟩
  · intro x hx; rw [stp_nil, List.mem_singleton] at hx; rw [hx]; exact hc
  · rw [List.concat_eq_append] at ho ⊢
    obtain ⟨dj, dn⟩ := d
    obtain ⟨cj, cn⟩ := c
    by_cases h : dj = cj
    · subst h
      rw [stp_same]
      intro x hx
      rcases List.mem_append.1 hx with hx | hx
      · exact ho x (List.mem_append_left _ hx)
      · rw [List.mem_singleton] at hx; subst hx; simp only [two64]; omega
    · rw [stp_other _ _ _ h]
      intro x hx
      simp only [List.mem_append, List.mem_cons, List.not_mem_nil, or_false] at hx
      rcases hx with hx | rfl | rfl
      · exact ho x (List.mem_append_left _ hx)
      · exact ho _ (by simp)
      · exact hc
/-- Sums stay, brought round. -/
theorem tW_stp (q : Int → Bool) (o : List Cnt) (c : Cnt) : tW q (stp o c) % two64 = (tW q o + if q c.1 then c.2 else 0) % two64 := by
  rcases List.eq_nil_or_concat o with rfl | ⟨r, d, rfl⟩
  · rw [stp_nil, tW_one, tW_nil, Int.zero_add]
  · rw [List.concat_eq_append]
    obtain ⟨dj, dn⟩ := d
    obtain ⟨cj, cn⟩ := c
    by_cases h : dj = cj
    · subst h
      rw [stp_same, tW_append, tW_append, tW_one, tW_one]
      simp only [two64]
      split <;> omega
    · rw [stp_other _ _ _ h, tW_append, tW_append, tW_cons, tW_one, tW_one]
      simp only [two64]; omega
/-- Where the whole fits, they stay as they are. -/
theorem tW_stp_fit (q : Int → Bool) {o : List Cnt} {c : Cnt} (ho : okN o) (hc : 0 ≤ c.2) (h : tW (fun _ => true) o + c.2 < two64) : tW q (stp o c) = tW q o + if q c.1 then c.2 else 0 := by
  rcases List.eq_nil_or_concat o with rfl | ⟨r, d, rfl⟩
  · rw [stp_nil, tW_one, tW_nil, Int.zero_add]
  · rw [List.concat_eq_append] at ho h ⊢
    obtain ⟨dj, dn⟩ := d
    obtain ⟨cj, cn⟩ := c
    by_cases hj : dj = cj
    · subst hj
      have h1 := tW_nonneg (fun _ => true) (l := r) (fun x hx => ho x (List.mem_append_left _ hx))
      have h2 := (ho (dj, dn) (by simp)).1
      rw [tW_append, tW_one] at h
      rw [stp_same, tW_append, tW_append, tW_one, tW_one]
      simp only [two64, if_true] at h h2 hc ⊢
      split <;> omega
    · rw [stp_other _ _ _ hj, tW_append, tW_append, tW_cons, tW_one, tW_one]
      omega

theorem snoc_cases {p : List Cnt → Prop} (h0 : p []) (h1 : ∀ s c, p s → p (s ++ [c])) (l : List Cnt) : p l := by
  rw [← List.reverse_reverse l]
  induction l.reverse with
  | nil => exact h0
  | cons c r ih => rw [List.reverse_cons]; exact h1 _ _ ih

theorem okN_clp (s : List Cnt) : okN s → okN (clp s) := by
  refine snoc_cases (p := fun s => okN s → okN (clp s)) (fun _ x hx => absurd hx (by simp [clp])) (fun s c ih h => ?_) s
  rw [clp_snoc]
  exact okN_stp (ih fun x hx => h x (List.mem_append_left _ hx)) (h c (by simp))
theorem tW_clp (q : Int → Bool) (s : List Cnt) : tW q (clp s) % two64 = tW q s % two64 := by
  refine snoc_cases (p := fun s => tW q (clp s) % two64 = tW q s % two64) rfl (fun s c ih => ?_) s
  rw [clp_snoc, tW_stp, tW_append, tW_one]
  simp only [two64] at ih ⊢; omega
theorem tW_clp_fit (q : Int → Bool) (s : List Cnt) : okN s → tW (fun _ => true) s < two64 → tW q (clp s) = tW q s := by
  refine snoc_cases (p := fun s => okN s → tW (fun _ => true) s < two64 → ∀ q, tW q (clp s) = tW q s) (fun _ _ _ => rfl) (fun s c ih h hf q => ?_) s |> fun h a b => h a b q
  have hs : okN s := fun x hx => h x (List.mem_append_left _ hx)
  have hc := h c (by simp)
  rw [tW_append, tW_one] at hf
  simp only [if_true] at hf
  have i := ih hs (by omega)
  rw [clp_snoc, tW_stp_fit q (okN_clp s hs) hc.1 (by rw [i]; exact hf), i, tW_append, tW_one]
theorem tW_nz (q : Int → Bool) : ∀ l : List Cnt, tW q (nz l) = tW q l
  | [] => rfl
  | c :: r => by
    have ih := tW_nz q r
    by_cases h : c.2 = 0
    · have e : nz (c :: r) = nz r := by simp [nz, h]
      rw [e, ih, tW_cons, h]; simp
    · have e : nz (c :: r) = c :: nz r := by simp [nz, h]
      rw [e, tW_cons, tW_cons, ih]

/-- What rises becomes what rises strictly, of the same indices. -/
theorem clp_rise (s : List Cnt) : Srt s → Rise (clp s) ∧ (∀ c ∈ clp s, ∃ d ∈ s, d.1 = c.1) ∧ ((clp s).getLast?.map (·.1) = s.getLast?.map (·.1)) := by
  refine snoc_cases (p := fun s => Srt s → Rise (clp s) ∧ (∀ c ∈ clp s, ∃ d ∈ s, d.1 = c.1) ∧ ((clp s).getLast?.map (·.1) = s.getLast?.map (·.1))) (fun _ => ⟨List.Pairwise.nil, fun c h => absurd h (by simp [clp]), rfl⟩) (fun s c ih h => ?_) s
  obtain ⟨h1, _, h2⟩ := List.pairwise_append.1 h
  obtain ⟨i1, i2, i3⟩ := ih h1
  rw [clp_snoc]
  generalize clp s = o at *
  rcases List.eq_nil_or_concat o with rfl | ⟨r, d, rfl⟩
  · rw [stp_nil]
    exact ⟨List.pairwise_singleton _ _, fun x hx => ⟨c, by simp, by rw [List.mem_singleton.1 hx]⟩, by simp⟩
  · rw [List.concat_eq_append] at *
    obtain ⟨dj, dn⟩ := d
    obtain ⟨cj, cn⟩ := c
    obtain ⟨e, he, hed⟩ := i2 (dj, dn) (by simp)
    have hle := h2 e he (cj, cn) (by simp)
    simp only at hed hle
    obtain ⟨r1, _, r2⟩ := List.pairwise_append.1 i1
    by_cases hj : dj = cj
    · subst hj
      rw [stp_same]
      refine ⟨List.pairwise_append.2 ⟨r1, List.pairwise_singleton _ _, fun x hx y hy => ?_⟩, fun x hx => ?_, by simp⟩
      · rw [List.mem_singleton.1 hy]; exact r2 x hx (dj, dn) (by simp)
      · rcases List.mem_append.1 hx with hx | hx
        · obtain ⟨f, hf, hfe⟩ := i2 x (List.mem_append_left _ hx)
          exact ⟨f, List.mem_append_left _ hf, hfe⟩
        · rw [List.mem_singleton.1 hx]; exact ⟨(dj, cn), by simp, rfl⟩
    · rw [stp_other _ _ _ hj]
      have e1 : r ++ [(dj, dn), (cj, cn)] = (r ++ [(dj, dn)]) ++ [(cj, cn)] := by simp
      rw [e1]
      refine ⟨List.pairwise_append.2 ⟨i1, List.pairwise_singleton _ _, fun x hx y hy => ?_⟩, fun x hx => ?_, by simp⟩
      · rw [List.mem_singleton.1 hy]
        have hd : dj < cj := by omega
        rcases List.mem_append.1 hx with hx | hx
        · exact Int.lt_trans (r2 x hx (dj, dn) (by simp)) hd
        · rw [List.mem_singleton.1 hx]; exact hd
      · rcases List.mem_append.1 hx with hx | hx
        · obtain ⟨f, hf, hfe⟩ := i2 x hx
          exact ⟨f, List.mem_append_left _ hf, hfe⟩
        · rw [List.mem_singleton.1 hx]; exact ⟨(cj, cn), by simp, rfl⟩

theorem Rise.filter {l : List Cnt} (h : Rise l) (q : Cnt → Bool) : Rise (l.filter q) := List.Pairwise.sublist List.filter_sublist h
theorem rise_ext : ∀ {a b : List Cnt}, Rise a → Rise b → (∀ x, x ∈ a ↔ x ∈ b) → a = b
  | [], [], _, _, _ => rfl
  | [], y :: b, _, _, h => absurd ((h y).2 (by simp)) (by simp)
  | x :: a, [], _, _, h => absurd ((h x).1 (by simp)) (by simp)
  | x :: a, y :: b, ha, hb, h => by
    obtain ⟨a1, a2⟩ := List.pairwise_cons.1 ha
    obtain ⟨b1, b2⟩ := List.pairwise_cons.1 hb
    have e : x = y := by
      rcases List.mem_cons.1 ((h x).1 (by simp)) with e | e
      · exact e
      · rcases List.mem_cons.1 ((h y).2 (by simp)) with f | f
        · exact f.symm
        · have := a1 y f; have := b1 x e; omega
    subst e
    rw [rise_ext a2 b2 fun z => ⟨fun hz => ?_, fun hz => ?_⟩]
    · rcases List.mem_cons.1 ((h z).1 (List.mem_cons_of_mem _ hz)) with e | e
      · have := a1 z hz; rw [e] at this; omega
      · exact e
    · rcases List.mem_cons.1 ((h z).2 (List.mem_cons_of_mem _ hz)) with e | e
      · have := b1 z hz; rw [e] at this; omega
      · exact e

theorem tW_none {i : Int} : ∀ {l : List Cnt}, (∀ c ∈ l, c.1 ≠ i) → tW (fun j => decide (j = i)) l = 0
  | [], _ => rfl
  | c :: r, h => by
    rw [tW_cons, tW_none (l := r) fun x hx => h x (List.mem_cons_of_mem _ hx)]
    simp [h c (List.mem_cons_self ..)]
theorem rise_mem {i v : Int} : ∀ {l : List Cnt}, Rise l → (i, v) ∈ l → tW (fun j => decide (j = i)) l = v
  | [], _, h => absurd h (by simp)
  | c :: r, hr, h => by
    obtain ⟨a1, a2⟩ := List.pairwise_cons.1 hr
    rw [tW_cons]
    rcases List.mem_cons.1 h with e | e
    · subst e
      rw [tW_none fun x hx => by have := a1 x hx; simp only at this; omega]; simp
    · have := a1 _ e
      simp only at this
      rw [rise_mem a2 e]
      simp [show ¬ c.1 = i by omega]
theorem rise_of_sum {i : Int} {l : List Cnt} (h : tW (fun j => decide (j = i)) l ≠ 0) : ∃ v, (i, v) ∈ l := by
  refine Classical.byContradiction fun hn => h (tW_none fun c hc e => hn ⟨c.2, ?_⟩)
  rw [← e]; exact hc
theorem mem_nz {l : List Cnt} {c : Cnt} : c ∈ nz l ↔ c ∈ l ∧ c.2 ≠ 0 := by simp [nz]
/-- What stands in the end, told by sums alone. -/
theorem mem_end {s : List Cnt} (hs : Srt s) (ho : okN s) (i v : Int) : (i, v) ∈ nz (clp s) ↔ v = tW (fun j => decide (j = i)) s % two64 ∧ v ≠ 0 := by
  have hr := (clp_rise s hs).1
  have hk := okN_clp s ho
  have hsum := tW_clp (fun j => decide (j = i)) s
  rw [mem_nz]
  constructor
  · rintro ⟨h1, h2⟩
    have h3 := rise_mem hr h1
    have h4 := hk _ h1
    simp only [two64] at *
    refine ⟨?_, h2⟩
    omega
  · rintro ⟨h1, h2⟩
    have h0 : tW (fun j => decide (j = i)) (clp s) ≠ 0 := by
      intro h; rw [h] at hsum; simp only [two64] at *; omega
    obtain ⟨v', hv⟩ := rise_of_sum h0
    have h3 := rise_mem hr hv
    have h4 := hk _ hv
    have : v' = v := by simp only [two64] at *; omega
    subst this
    exact ⟨hv, h2⟩
theorem end_ext {s t : List Cnt} (hs : Srt s) (ht : Srt t) (ho : okN s) (hp : s.Perm t) : nz (clp s) = nz (clp t) := by
  have ho' : okN t := fun c hc => ho c (hp.mem_iff.2 hc)
  refine rise_ext ((clp_rise s hs).1.filter _) ((clp_rise t ht).1.filter _) fun ⟨i, v⟩ => ?_
  rw [mem_end hs ho, mem_end ht ho', tW_perm _ hp]

/-- Some rising row of the same counts. -/
theorem exists_srt : ∀ l : List Cnt, ∃ s, s.Perm l ∧ Srt s
  | [] => ⟨[], List.Perm.refl _, List.Pairwise.nil⟩
  | c :: r => by
    obtain ⟨s, h1, h2⟩ := exists_srt r
    refine ⟨s.filter (fun d => decide (d.1 ≤ c.1)) ++ c :: s.filter (fun d => !decide (d.1 ≤ c.1)), ?_, ?_⟩
    · refine List.perm_middle.trans (List.Perm.cons _ ?_)
      exact (List.filter_append_perm _ s).trans h1
    · refine List.pairwise_append.2 ⟨List.Pairwise.sublist List.filter_sublist h2, List.pairwise_cons.2 ⟨fun y hy => ?_, List.Pairwise.sublist List.filter_sublist h2⟩, fun x hx y hy => ?_⟩
      · have := (List.mem_filter.1 hy).2; simp at this; omega
      · have h3 := (List.mem_filter.1 hx).2; simp at h3
        rcases List.mem_cons.1 hy with rfl | hy
        · exact h3
        · have := (List.mem_filter.1 hy).2; simp at this; omega
/-- Two lists together, as the document has it. -/
noncomputable def mrg (l : List Cnt) : List Cnt := nz (clp (exists_srt l).choose)
theorem mrg_of {l s : List Cnt} (hs : Srt s) (hp : s.Perm l) (ho : okN l) : nz (clp s) = mrg l := by
  obtain ⟨h1, h2⟩ := (exists_srt l).choose_spec
  exact end_ext hs h2 (fun c hc => ho c (hp.mem_iff.1 hc)) (hp.trans h1.symm)
theorem mrg_perm {a b : List Cnt} (hp : a.Perm b) (ho : okN a) : mrg a = mrg b := by
  obtain ⟨s, h1, h2⟩ := exists_srt a
  rw [← mrg_of h2 h1 ho, ← mrg_of h2 (h1.trans hp) fun c hc => ho c (hp.mem_iff.2 hc)]
theorem mrg_facts (l : List Cnt) (ho : okN l) : Rise (mrg l) ∧ (∀ c ∈ mrg l, (∃ d ∈ l, d.1 = c.1) ∧ 0 < c.2 ∧ c.2 < two64) ∧ (mrg l).length ≤ l.length ∧ (∀ q, tW q (mrg l) % two64 = tW q l % two64) ∧ (tW (fun _ => true) l < two64 → ∀ q, tW q (mrg l) = tW q l) := by
  obtain ⟨s, h1, h2⟩ := exists_srt l
  have ho' : okN s := fun c hc => ho c (h1.mem_iff.1 hc)
  rw [← mrg_of h2 h1 ho]
  obtain ⟨r1, r2, _⟩ := clp_rise s h2
  refine ⟨r1.filter _, fun c hc => ?_, ?_, fun q => ?_, fun hf q => ?_⟩
  · obtain ⟨c1, c2⟩ := mem_nz.1 hc
    obtain ⟨d, d1, d2⟩ := r2 c c1
    have := okN_clp s ho' c c1
    exact ⟨⟨d, h1.mem_iff.1 d1, d2⟩, by omega, this.2⟩
  · refine Nat.le_trans (List.length_filter_le _ _) ?_
    rw [← h1.length_eq]
    refine snoc_cases (p := fun s => (clp s).length ≤ s.length) (Nat.le_refl _) (fun s c ih => ?_) s
    rw [clp_snoc]
    rcases List.eq_nil_or_concat (clp s) with e | ⟨r, d, e⟩
    · rw [e, stp_nil]; simp
    · rw [List.concat_eq_append] at e
      rw [e] at ih ⊢
      unfold stp
      rw [List.getLast?_concat]
      simp only
      split <;> simp at ih ⊢ <;> omega
  · rw [tW_nz, tW_clp, tW_perm q h1]
  · rw [tW_nz, tW_clp_fit q s ho' (by rw [tW_perm _ h1]; exact hf), tW_perm q h1]
/-- What rises strictly, nothing empty, stays as it is. -/
theorem clp_self (l : List Cnt) : Rise l → clp l = l := by
  refine snoc_cases (p := fun l => Rise l → clp l = l) (fun _ => rfl) (fun s c ih h => ?_) l
  obtain ⟨h1, _, h2⟩ := List.pairwise_append.1 h
  rw [clp_snoc, ih h1]
  rcases List.eq_nil_or_concat s with rfl | ⟨r, d, rfl⟩
  · rfl
  · rw [List.concat_eq_append] at *
    have := h2 d (by simp) c (by simp)
    rw [stp_other _ _ _ (by omega)]; simp
theorem mrg_self {l : List Cnt} (hr : Rise l) (hn : ∀ c ∈ l, c.2 ≠ 0) (ho : okN l) : mrg l = l := by
  rw [← mrg_of (s := l) (hr.imp fun h => Int.le_of_lt h) (List.Perm.refl _) ho, clp_self l hr]
  unfold nz
  rw [List.filter_eq_self]
  intro c hc; simpa using hn c hc
end Go.Proofs.Ytonacegkhkncmaa.Mg
