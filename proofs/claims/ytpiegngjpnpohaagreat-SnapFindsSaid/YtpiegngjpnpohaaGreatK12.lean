/- Lemmas for the laws of this seat, laid together of Mg0, Mg1. -/
import Derived.Test.YtpiegngjpnpohaaGreatK03
import Derived.Test.YtpiegngjpnpohaaGreatK10
import Derived.Test.YtpiegngjpnpohaaGreatK11
import Derived.Lib.AppendZerosOnto
import Derived.Laws.IdiomCopy
import Derived.Shelf.SlSortCmp.KitK

namespace Go.Proofs.YtpiegngjpnpohaaGreat.Mg
open Go.Proofs.YtpiegngjpnpohaaGreat.St
set_option linter.unusedVariables false
set_option linter.unusedSimpArgs false
def two64 : Int := 18446744073709551616
def stp (out : List Cnt) (c : Cnt) : List Cnt :=
  match out.getLast? with
  | some d => if d.1 = c.1 then out.dropLast ++ [(d.1, (d.2 + c.2) % two64)] else out ++ [c]
  | none => [c]
def clp (s : List Cnt) : List Cnt := s.foldl stp []
def nz (l : List Cnt) : List Cnt := l.filter fun c => decide (c.2 ≠ 0)
def Rise (l : List Cnt) : Prop := l.Pairwise fun x y => x.1 < y.1
def tW (q : Int → Bool) (l : List Cnt) : Int := ((l.filter fun c => q c.1).map (·.2)).sum
def okN (l : List Cnt) : Prop := ∀ c ∈ l, 0 ≤ c.2 ∧ c.2 < two64
theorem clp_snoc (s : List Cnt) (c : Cnt) : clp (s ++ [c]) = stp (clp s) c := by simp [clp]
theorem stp_nil (c : Cnt) : stp [] c = [c] := rfl
theorem stp_same (r : List Cnt) (j n m : Int) : stp (r ++ [(j, n)]) (j, m) = r ++ [(j, (n + m) % two64)] := by simp [stp]
theorem stp_other (r : List Cnt) (d c : Cnt) (h : d.1 ≠ c.1) : stp (r ++ [d]) c = r ++ [d, c] := by simp [stp, h]
theorem tW_append (q : Int → Bool) (a b : List Cnt) : tW q (a ++ b) = tW q a + tW q b := by simp [tW, List.filter_append]
theorem tW_cons (q : Int → Bool) (c : Cnt) (b : List Cnt) : tW q (c :: b) = (if q c.1 then c.2 else 0) + tW q b := by
  unfold tW
  rw [List.filter_cons]
  split <;> simp
theorem tW_nil (q : Int → Bool) : tW q [] = 0 := rfl
theorem tW_one (q : Int → Bool) (c : Cnt) : tW q [c] = if q c.1 then c.2 else 0 := by rw [tW_cons, tW_nil]; omega
theorem tW_perm (q : Int → Bool) {a b : List Cnt} (h : a.Perm b) : tW q a = tW q b := by
  induction h with
  | nil => rfl
  | cons x _ ih => rw [tW_cons, tW_cons, ih]
  | swap x y l => rw [tW_cons, tW_cons, tW_cons, tW_cons]; omega
  | trans _ _ i1 i2 => rw [i1, i2]
theorem tW_nonneg (q : Int → Bool) : ∀ {l : List Cnt}, okN l → 0 ≤ tW q l
  | [], _ => by simp [tW_nil]
  | c :: r, h => by
    have := tW_nonneg q (l := r) (fun x hx => h x (List.mem_cons_of_mem _ hx))
    have := (h c (List.mem_cons_self ..)).1
    rw [tW_cons]; split <;> omega
theorem okN_stp {o : List Cnt} {c : Cnt} (ho : okN o) (hc : 0 ≤ c.2 ∧ c.2 < two64) : okN (stp o c) := by
  rcases List.eq_nil_or_concat o with rfl | ⟨r, d, rfl⟩
  · intro x hx; rw [stp_nil, List.mem_singleton] at hx; rw [hx]; exact hc
  · rw [List.concat_eq_append] at ho ⊢
    obtain ⟨dj, dn⟩ := d
    obtain ⟨cj, cn⟩ := c
    by_cases h : dj = cj
    · subst h
      rw [stp_same]
      intro x hx
      rcases List.mem_append.1 hx with hx | hx
      · exact ho x (List.mem_append_left _ hx)
      · rw [List.mem_singleton] at hx; subst hx; simp only [two64]; omega
    · rw [stp_other _ _ _ h]
      intro x hx
      simp only [List.mem_append, List.mem_cons, List.not_mem_nil, or_false] at hx
      rcases hx with hx | rfl | rfl
      · exact ho x (List.mem_append_left _ hx)
      · exact ho _ (by simp)
      · exact hc
theorem tW_stp (q : Int → Bool) (o : List Cnt) (c : Cnt) : tW q (stp o c) % two64 = (tW q o + if q c.1 then c.2 else 0) % two64 := by
  rcases List.eq_nil_or_concat o with rfl | ⟨r, d, rfl⟩
  · rw [stp_nil, tW_one, tW_nil, Int.zero_add]
  · rw [List.concat_eq_append]
    obtain ⟨dj, dn⟩ := d
    obtain ⟨cj, cn⟩ := c
    by_cases h : dj = cj
    · subst h
      rw [stp_same, tW_append, tW_append, tW_one, tW_one]
      simp only [two64]
      split <;> omega
    · rw [stp_other _ _ _ h, tW_append, tW_append, tW_cons, tW_one, tW_one]
      simp only [two64]; omega
theorem tW_stp_fit (q : Int → Bool) {o : List Cnt} {c : Cnt} (ho : okN o) (hc : 0 ≤ c.2) (h : tW (fun _ => true) o + c.2 < two64) : tW q (stp o c) = tW q o + if q c.1 then c.2 else 0 := by
  rcases List.eq_nil_or_concat o with rfl | ⟨r, d, rfl⟩
  · rw [stp_nil, tW_one, tW_nil, Int.zero_add]
  · rw [List.concat_eq_append] at ho h ⊢
    obtain ⟨dj, dn⟩ := d
    obtain ⟨cj, cn⟩ := c
    by_cases hj : dj = cj
    · subst hj
      have h1 := tW_nonneg (fun _ => true) (l := r) (fun x hx => ho x (List.mem_append_left _ hx))
      have h2 := (ho (dj, dn) (by simp)).1
      rw [tW_append, tW_one] at h
      rw [stp_same, tW_append, tW_append, tW_one, tW_one]
      simp only [two64, if_true] at h h2 hc ⊢
      split <;> omega
    · rw [stp_other _ _ _ hj, tW_append, tW_append, tW_cons, tW_one, tW_one]
      omega
theorem snoc_cases {p : List Cnt → Prop} (h0 : p []) (h1 : ∀ s c, p s → p (s ++ [c])) (l : List Cnt) : p l := by
  rw [← List.reverse_reverse l]
  induction l.reverse with
  | nil => exact h0
  | cons c r ih => rw [List.reverse_cons]; exact h1 _ _ ih
theorem okN_clp (s : List Cnt) : okN s → okN (clp s) := by
  refine snoc_cases (p := fun s => okN s → okN (clp s)) (fun _ x hx => absurd hx (by simp [clp])) (fun s c ih h => ?_) s
  rw [clp_snoc]
  exact okN_stp (ih fun x hx => h x (List.mem_append_left _ hx)) (h c (by simp))
theorem tW_clp (q : Int → Bool) (s : List Cnt) : tW q (clp s) % two64 = tW q s % two64 := by
  refine snoc_cases (p := fun s => tW q (clp s) % two64 = tW q s % two64) rfl (fun s c ih => ?_) s
  rw [clp_snoc, tW_stp, tW_append, tW_one]
  simp only [two64] at ih ⊢; omega
theorem tW_clp_fit (q : Int → Bool) (s : List Cnt) : okN s → tW (fun _ => true) s < two64 → tW q (clp s) = tW q s := by
  refine snoc_cases (p := fun s => okN s → tW (fun _ => true) s < two64 → ∀ q, tW q (clp s) = tW q s) (fun _ _ _ => rfl) (fun s c ih h hf q => ?_) s |> fun h a b => h a b q
  have hs : okN s := fun x hx => h x (List.mem_append_left _ hx)
  have hc := h c (by simp)
  rw [tW_append, tW_one] at hf
  simp only [if_true] at hf
  have i := ih hs (by omega)
  rw [clp_snoc, tW_stp_fit q (okN_clp s hs) hc.1 (by rw [i]; exact hf), i, tW_append, tW_one]
theorem tW_nz (q : Int → Bool) : ∀ l : List Cnt, tW q (nz l) = tW q l
  | [] => rfl
  | c :: r => by
    have ih := tW_nz q r
    by_cases h : c.2 = 0
    · have e : nz (c :: r) = nz r := by simp [nz, h]
      rw [e, ih, tW_cons, h]; simp
    · have e : nz (c :: r) = c :: nz r := by simp [nz, h]
      rw [e, tW_cons, tW_cons, ih]
theorem clp_rise (s : List Cnt) : Srt s → Rise (clp s) ∧ (∀ c ∈ clp s, ∃ d ∈ s, d.1 = c.1) ∧ ((clp s).getLast?.map (·.1) = s.getLast?.map (·.1)) := by
  refine snoc_cases (p := fun s => Srt s → Rise (clp s) ∧ (∀ c ∈ clp s, ∃ d ∈ s, d.1 = c.1) ∧ ((clp s).getLast?.map (·.1) = s.getLast?.map (·.1))) (fun _ => ⟨List.Pairwise.nil, fun c h => absurd h (by simp [clp]), rfl⟩) (fun s c ih h => ?_) s
  obtain ⟨h1, _, h2⟩ := List.pairwise_append.1 h
  obtain ⟨i1, i2, i3⟩ := ih h1
  rw [clp_snoc]
  generalize clp s = o at *
  rcases List.eq_nil_or_concat o with rfl | ⟨r, d, rfl⟩
  · rw [stp_nil]
    exact ⟨List.pairwise_singleton _ _, fun x hx => ⟨c, by simp, by rw [List.mem_singleton.1 hx]⟩, by simp⟩
  · rw [List.concat_eq_append] at *
    obtain ⟨dj, dn⟩ := d
    obtain ⟨cj, cn⟩ := c
    obtain ⟨e, he, hed⟩ := i2 (dj, dn) (by simp)
    have hle := h2 e he (cj, cn) (by simp)
    simp only at hed hle
    obtain ⟨r1, _, r2⟩ := List.pairwise_append.1 i1
    by_cases hj : dj = cj
    · subst hj
      rw [stp_same]
      refine ⟨List.pairwise_append.2 ⟨r1, List.pairwise_singleton _ _, fun x hx y hy => ?_⟩, fun x hx => ?_, by simp⟩
      · rw [List.mem_singleton.1 hy]; exact r2 x hx (dj, dn) (by simp)
      · rcases List.mem_append.1 hx with hx | hx
        · obtain ⟨f, hf, hfe⟩ := i2 x (List.mem_append_left _ hx)
          exact ⟨f, List.mem_append_left _ hf, hfe⟩
        · rw [List.mem_singleton.1 hx]; exact ⟨(dj, cn), by simp, rfl⟩
    · rw [stp_other _ _ _ hj]
      have e1 : r ++ [(dj, dn), (cj, cn)] = (r ++ [(dj, dn)]) ++ [(cj, cn)] := by simp
      rw [e1]
      refine ⟨List.pairwise_append.2 ⟨i1, List.pairwise_singleton _ _, fun x hx y hy => ?_⟩, fun x hx => ?_, by simp⟩
      · rw [List.mem_singleton.1 hy]
        have hd : dj < cj := by omega
        rcases List.mem_append.1 hx with hx | hx
        · exact Int.lt_trans (r2 x hx (dj, dn) (by simp)) hd
        · rw [List.mem_singleton.1 hx]; exact hd
      · rcases List.mem_append.1 hx with hx | hx
        · obtain ⟨f, hf, hfe⟩ := i2 x hx
          exact ⟨f, List.mem_append_left _ hf, hfe⟩
        · rw [List.mem_singleton.1 hx]; exact ⟨(cj, cn), by simp, rfl⟩
theorem Rise.filter {l : List Cnt} (h : Rise l) (q : Cnt → Bool) : Rise (l.filter q) := List.Pairwise.sublist List.filter_sublist h
theorem rise_ext : ∀ {a b : List Cnt}, Rise a → Rise b → (∀ x, x ∈ a ↔ x ∈ b) → a = b
  | [], [], _, _, _ => rfl
  | [], y :: b, _, _, h => absurd ((h y).2 (by simp)) (by simp)
  | x :: a, [], _, _, h => absurd ((h x).1 (by simp)) (by simp)
  | x :: a, y :: b, ha, hb, h => by
    obtain ⟨a1, a2⟩ := List.pairwise_cons.1 ha
    obtain ⟨b1, b2⟩ := List.pairwise_cons.1 hb
    have e : x = y := by
      rcases List.mem_cons.1 ((h x).1 (by simp)) with e | e
      · exact e
      · rcases List.mem_cons.1 ((h y).2 (by simp)) with f | f
        · exact f.symm
        · have := a1 y f; have := b1 x e; omega
    subst e
    rw [rise_ext a2 b2 fun z => ⟨fun hz => ?_, fun hz => ?_⟩]
    · rcases List.mem_cons.1 ((h z).1 (List.mem_cons_of_mem _ hz)) with e | e
      · have := a1 z hz; rw [e] at this; omega
      · exact e
    · rcases List.mem_cons.1 ((h z).2 (List.mem_cons_of_mem _ hz)) with e | e
      · have := b1 z hz; rw [e] at this; omega
      · exact e
theorem tW_none {i : Int} : ∀ {l : List Cnt}, (∀ c ∈ l, c.1 ≠ i) → tW (fun j => decide (j = i)) l = 0
  | [], _ => rfl
  | c :: r, h => by
    rw [tW_cons, tW_none (l := r) fun x hx => h x (List.mem_cons_of_mem _ hx)]
    simp [h c (List.mem_cons_self ..)]
theorem rise_mem {i v : Int} : ∀ {l : List Cnt}, Rise l → (i, v) ∈ l → tW (fun j => decide (j = i)) l = v
  | [], _, h => absurd h (by simp)
  | c :: r, hr, h => by
    obtain ⟨a1, a2⟩ := List.pairwise_cons.1 hr
    rw [tW_cons]
    rcases List.mem_cons.1 h with e | e
    · subst e
      rw [tW_none fun x hx => by have := a1 x hx; simp only at this; omega]; simp
    · have := a1 _ e
      simp only at this
      rw [rise_mem a2 e]
      simp [show ¬ c.1 = i by omega]
theorem rise_of_sum {i : Int} {l : List Cnt} (h : tW (fun j => decide (j = i)) l ≠ 0) : ∃ v, (i, v) ∈ l := by
  refine Classical.byContradiction fun hn => h (tW_none fun c hc e => hn ⟨c.2, ?_⟩)
  rw [← e]; exact hc
theorem mem_nz {l : List Cnt} {c : Cnt} : c ∈ nz l ↔ c ∈ l ∧ c.2 ≠ 0 := by simp [nz]
theorem mem_end {s : List Cnt} (hs : Srt s) (ho : okN s) (i v : Int) : (i, v) ∈ nz (clp s) ↔ v = tW (fun j => decide (j = i)) s % two64 ∧ v ≠ 0 := by
  have hr := (clp_rise s hs).1
  have hk := okN_clp s ho
  have hsum := tW_clp (fun j => decide (j = i)) s
  rw [mem_nz]
  constructor
  · rintro ⟨h1, h2⟩
    have h3 := rise_mem hr h1
    have h4 := hk _ h1
    simp only [two64] at *
    refine ⟨?_, h2⟩
    omega
  · rintro ⟨h1, h2⟩
    have h0 : tW (fun j => decide (j = i)) (clp s) ≠ 0 := by
      intro h; rw [h] at hsum; simp only [two64] at *; omega
    obtain ⟨v', hv⟩ := rise_of_sum h0
    have h3 := rise_mem hr hv
    have h4 := hk _ hv
    have : v' = v := by simp only [two64] at *; omega
    subst this
    exact ⟨hv, h2⟩
theorem end_ext {s t : List Cnt} (hs : Srt s) (ht : Srt t) (ho : okN s) (hp : s.Perm t) : nz (clp s) = nz (clp t) := by
  have ho' : okN t := fun c hc => ho c (hp.mem_iff.2 hc)
  refine rise_ext ((clp_rise s hs).1.filter _) ((clp_rise t ht).1.filter _) fun ⟨i, v⟩ => ?_
  rw [mem_end hs ho, mem_end ht ho', tW_perm _ hp]
theorem exists_srt : ∀ l : List Cnt, ∃ s, s.Perm l ∧ Srt s
  | [] => ⟨[], List.Perm.refl _, List.Pairwise.nil⟩
  | c :: r => by
    obtain ⟨s, h1, h2⟩ := exists_srt r
    refine ⟨s.filter (fun d => decide (d.1 ≤ c.1)) ++ c :: s.filter (fun d => !decide (d.1 ≤ c.1)), ?_, ?_⟩
    · refine List.perm_middle.trans (List.Perm.cons _ ?_)
      exact (List.filter_append_perm _ s).trans h1
    · refine List.pairwise_append.2 ⟨List.Pairwise.sublist List.filter_sublist h2, List.pairwise_cons.2 ⟨fun y hy => ?_, List.Pairwise.sublist List.filter_sublist h2⟩, fun x hx y hy => ?_⟩
      · have := (List.mem_filter.1 hy).2; simp at this; omega
      · have h3 := (List.mem_filter.1 hx).2; simp at h3
        rcases List.mem_cons.1 hy with rfl | hy
        · exact h3
        · have := (List.mem_filter.1 hy).2; simp at this; omega
noncomputable def mrg (l : List Cnt) : List Cnt := nz (clp (exists_srt l).choose)
theorem mrg_of {l s : List Cnt} (hs : Srt s) (hp : s.Perm l) (ho : okN l) : nz (clp s) = mrg l := by
  obtain ⟨h1, h2⟩ := (exists_srt l).choose_spec
  exact end_ext hs h2 (fun c hc => ho c (hp.mem_iff.1 hc)) (hp.trans h1.symm)
theorem mrg_facts (l : List Cnt) (ho : okN l) : Rise (mrg l) ∧ (∀ c ∈ mrg l, (∃ d ∈ l, d.1 = c.1) ∧ 0 < c.2 ∧ c.2 < two64) ∧ (mrg l).length ≤ l.length ∧ (∀ q, tW q (mrg l) % two64 = tW q l % two64) ∧ (tW (fun _ => true) l < two64 → ∀ q, tW q (mrg l) = tW q l) := by
  obtain ⟨s, h1, h2⟩ := exists_srt l
  have ho' : okN s := fun c hc => ho c (h1.mem_iff.1 hc)
  rw [← mrg_of h2 h1 ho]
  obtain ⟨r1, r2, _⟩ := clp_rise s h2
  refine ⟨r1.filter _, fun c hc => ?_, ?_, fun q => ?_, fun hf q => ?_⟩
  · obtain ⟨c1, c2⟩ := mem_nz.1 hc
    obtain ⟨d, d1, d2⟩ := r2 c c1
    have := okN_clp s ho' c c1
    exact ⟨⟨d, h1.mem_iff.1 d1, d2⟩, by omega, this.2⟩
  · refine Nat.le_trans (List.length_filter_le _ _) ?_
    rw [← h1.length_eq]
    refine snoc_cases (p := fun s => (clp s).length ≤ s.length) (Nat.le_refl _) (fun s c ih => ?_) s
    rw [clp_snoc]
    rcases List.eq_nil_or_concat (clp s) with e | ⟨r, d, e⟩
    · rw [e, stp_nil]; simp
    · rw [List.concat_eq_append] at e
      rw [e] at ih ⊢
      unfold stp
      rw [List.getLast?_concat]
      simp only
      split <;> simp at ih ⊢ <;> omega
  · rw [tW_nz, tW_clp, tW_perm q h1]
  · rw [tW_nz, tW_clp_fit q s ho' (by rw [tW_perm _ h1]; exact hf), tW_perm q h1]
theorem clp_self (l : List Cnt) : Rise l → clp l = l := by
  refine snoc_cases (p := fun l => Rise l → clp l = l) (fun _ => rfl) (fun s c ih h => ?_) l
  obtain ⟨h1, _, h2⟩ := List.pairwise_append.1 h
  rw [clp_snoc, ih h1]
  rcases List.eq_nil_or_concat s with rfl | ⟨r, d, rfl⟩
  · rfl
  · rw [List.concat_eq_append] at *
    have := h2 d (by simp) c (by simp)
    rw [stp_other _ _ _ (by omega)]; simp
theorem mrg_self {l : List Cnt} (hr : Rise l) (hn : ∀ c ∈ l, c.2 ≠ 0) (ho : okN l) : mrg l = l := by
  rw [← mrg_of (s := l) (hr.imp fun h => Int.le_of_lt h) (List.Perm.refl _) ho, clp_self l hr]
  unfold nz
  rw [List.filter_eq_self]
  intro c hc; simpa using hn c hc
end Go.Proofs.YtpiegngjpnpohaaGreat.Mg

namespace Go.Proofs.YtpiegngjpnpohaaGreat.Mg
open Go.RowKit Go.Shelf Go.Sort Go.Proofs Go.Lib Go.Proofs.YtpiegngjpnpohaaGreat.Sl Go.Proofs.YtpiegngjpnpohaaGreat.Rk Go.Proofs.YtpiegngjpnpohaaGreat.St
set_option linter.unusedVariables false
theorem infoCount : (Tryz.prog.info? 54).map (fun i => (i.zero, i.size, i.bytes)) = some (some (.agg #[.int .i64 0, .int .u64 0]), 2, 16) := by kernel_rfl
theorem flat_one (l : List (Int × Int)) : ∀ u ∈ flat l, u.oneCell' = true := by
  intro u hu
  obtain ⟨c, _, h⟩ := List.mem_flatMap.1 hu
  simp at h
  rcases h with rfl | rfl <;> rfl
theorem flat_snoc (l : List (Int × Int)) (c : Int × Int) : flat (l ++ [c]) = flat l ++ [.int .i64 c.1, .int .u64 c.2] := by simp [flat]
theorem flat_append (a b : List (Int × Int)) : flat (a ++ b) = flat a ++ flat b := by simp [flat]
theorem flat_take (l : List (Int × Int)) (k : Nat) : (flat l).take (k * 2) = flat (l.take k) := by
  induction l generalizing k with
  | nil => simp [flat]
  | cons c r ih =>
    cases k with
    | zero => simp [flat]
    | succ k =>
      have := ih k
      rw [show (k + 1) * 2 = k * 2 + 1 + 1 by omega]
      simp only [flat, List.flatMap_cons, List.take_succ_cons, List.cons_append, List.nil_append] at this ⊢
      rw [this]
theorem flat_set2 (l : List (Int × Int)) (i : Nat) (c : Int × Int) : ((flat l).set (i * 2) (.int .i64 c.1)).set (i * 2 + 1) (.int .u64 c.2) = flat (l.set i c) := by
  induction l generalizing i with
  | nil => simp [flat]
  | cons d r ih =>
    cases i with
    | zero => simp [flat]
    | succ i =>
      have := ih i
      rw [show (i + 1) * 2 = i * 2 + 1 + 1 by omega]
      simp only [flat, List.flatMap_cons, List.set_cons_succ, List.cons_append, List.nil_append] at this ⊢
      rw [this]
theorem cs_of_own {w : World} {base : Nat} {A : Option Addr} {cap : Nat} {l : List (Int × Int)} {t : TypeId} (h : w.ownsRow base t 2 (.slice A l.length cap) l.length (flat l)) (hok : ∀ c ∈ l, okC c) : Cs w w.heap.size A l := by
  obtain ⟨_, _, e1, e2, e3, e4⟩ := own_form h
  cases e1
  refine ⟨by omega, hok, fun hl => ?_⟩
  rcases h.2 with ⟨h1, h2⟩ | ⟨g, cap', cur, h1, h2⟩
  · omega
  · cases h1
    refine ⟨g, 0, rfl, (h.lt g rfl).2, fun i c hi => ?_⟩
    have hil := (List.getElem?_eq_some_iff.1 hi).1
    obtain ⟨f1, f2⟩ := flat_get l i c hi
    rw [Nat.zero_add]
    exact ⟨(h.cellAt (i * 2) (by omega)).trans f1, (h.cellAt (i * 2 + 1) (by omega)).trans f2⟩
theorem own_cut {w : World} {base s g n k cap : Nat} {t : TypeId} {xs : List Value} (h : w.ownsRow base t s (.slice (some ⟨g, 0, none⟩) n cap) n xs) (hk : k ≤ n) : w.ownsRow base t s (.slice (some ⟨g, 0, none⟩) k cap) k (xs.take (k * s)) := by
  have hm := Nat.mul_le_mul_right s hk
  refine ⟨by rw [List.length_take, h.1]; omega, ?_⟩
  rcases h.2 with ⟨h1, h2⟩ | ⟨g', cap', cur, h1, h2, h3, h4, h5, h6, h7⟩
  · simp at h1
  · cases h1
    exact .inr ⟨g, cap, cur, rfl, h2, h3, by omega, h5, h6, by rw [← h7, List.take_take, Nat.min_eq_left hm]⟩
theorem own_past {base s g n cap : Nat} {t : TypeId} {xs : List Value} (hl : xs.length = n * s) : ∀ (vs : List Value) (w : World) (o : Nat), n * s ≤ o → w.ownsRow base t s (.slice (some ⟨g, 0, none⟩) n cap) n xs → (w.setCells g o vs).ownsRow base t s (.slice (some ⟨g, 0, none⟩) n cap) n xs ∧ w.grownBy (w.setCells g o vs) (some g)
  | [], w, o, _, h => ⟨by simpa [World.setCells] using h, by simpa [World.setCells] using World.grownBy.refl w (some g)⟩
  | v :: vs, w, o, ho, h => by
    obtain ⟨h1, h2⟩ := h.stored o v
    rw [List.set_eq_of_length_le (by omega)] at h1
    obtain ⟨h3, h4⟩ := own_past hl vs _ (o + 1) (by omega) h1
    simp only [World.setCells]
    exact ⟨h3, h2.andThen h4 (fun j hj => by cases hj; exact .inr rfl)⟩
theorem run_clear_own {P : Program} {w : World} {base g n k cap : Nat} {t ty e : TypeId} {i : TypeInfo} {z : Value} {xs : List Value} (s : Nat) (ht : P.underlying t = some (.slice e)) (hi : P.info? e = some i) (hz : i.zero = some z) (hzs : z.cells.size = s) (h1 : ∀ u ∈ z.cells.toList, u.oneCell' = true) (hs : 0 < s)
    (h : w.ownsRow base e s (.slice (some ⟨g, 0, none⟩) n cap) n xs) (hk : k < n) (o : Nat) (ho : o = k * s) (c : Nat) :
    ∃ w', (Builtin.clear_ #[t] ty #[.slice (some ⟨g, o, none⟩) (n - k) c]).run P w = .ok (.tuple #[]) w' ∧ w'.ownsRow base e s (.slice (some ⟨g, 0, none⟩) k cap) k (xs.take (k * s)) ∧ w.grownBy w' (some g) := by
  subst ho
  have hzv : ∀ w : World, (zeroValue e).run P w = .ok z w := fun w => by simp [zeroValue, typeInfo, hi, hz]
  have hm : (n - k) * s + k * s = n * s := by rw [← Nat.add_mul]; congr 1; omega
  have hlen : (Builtin.zeroCells z.cells (n - k)).toList.length = (n - k) * s := by simp [Builtin.zeroCells, hzs]
  have hst := run_storeCells_cells (P := P) g (k * s) (Builtin.zeroCells z.cells (n - k)).toList 0 w
    (fun j hj => by
      rw [hlen] at hj
      rw [h.cellAt _ (by omega), List.getElem?_eq_getElem (by rw [h.1]; omega)]; rfl)
    (fun j _ => h.frozenAt _)
    (fun v hv => by
      refine h1 v ?_
      rw [Array.mem_toList_iff] at hv ⊢
      simp only [Builtin.zeroCells] at hv
      obtain ⟨j, hj, rfl⟩ := Array.mem_map.1 hv
      have hb : j % z.cells.size < z.cells.size := Nat.mod_lt _ (by omega)
      rw [getElem!_pos z.cells _ hb]
      exact Array.getElem_mem _)
  simp only [Nat.add_zero] at hst
  obtain ⟨a, b⟩ := own_past (own_cut h (Nat.le_of_lt hk)).1 (Builtin.zeroCells z.cells (n - k)).toList w (k * s) (Nat.le_refl _) (own_cut h (Nat.le_of_lt hk))
  refine ⟨_, ?_, a, b⟩
  obtain ⟨m, hm⟩ : ∃ m, n - k = m + 1 := ⟨n - k - 1, by omega⟩
  rw [hm] at hst ⊢
  simp [Builtin.clear_, run_underlying ht, hzv, hst]
theorem cmp_any (x y : Cnt) (W : World) : Calls Tryz.prog 164 #[.agg #[.int .i64 x.1, .int .u64 x.2], .agg #[.int .i64 y.1, .int .u64 y.2]] W fun e w' => e = .returned (.int .i64 (if x.1 < y.1 then -1 else if y.1 < x.1 then 1 else 0)) ∧ ∃ q os', w' = grow (W.drewN q) os' := by
  obtain ⟨a, b⟩ := x
  obtain ⟨c, d⟩ := y
  simp only
  rcases Int.lt_trichotomy a c with h | h | h
  · rw [if_pos h]
    go_enter Tryz.func164, Tryz.ntmps164
    go_wp2
    go_ret
    exact ⟨rfl, 0, _, by rw [alloc_eq_grow, alloc_eq_grow, grow_grow]; rfl⟩
  · subst h
    have h1 : ¬ a < a := by omega
    rw [if_neg h1, if_neg h1]
    go_enter Tryz.func164, Tryz.ntmps164
    go_wp2
    go_ret
    exact ⟨rfl, 0, _, by rw [alloc_eq_grow, alloc_eq_grow, grow_grow]; rfl⟩
  · have h1 : ¬ a < c := by omega
    rw [if_neg h1, if_pos h]
    go_enter Tryz.func164, Tryz.ntmps164
    go_wp2
    go_ret
    exact ⟨rfl, 0, _, by rw [alloc_eq_grow, alloc_eq_grow, grow_grow]; rfl⟩
theorem enters_cmp : ∀ args w, (callFunc 164 args).run Tryz.prog w = .ok (.enter 164 args) w := enters_of Tryz.func164 (by kernel_rfl) rfl
theorem enters_del : ∀ args w, (callFunc 166 args).run Tryz.prog w = .ok (.enter 166 args) w := enters_of Tryz.func166 (by kernel_rfl) rfl
theorem del_any (x : Cnt) (W : World) : Calls Tryz.prog 166 #[.agg #[.int .i64 x.1, .int .u64 x.2]] W fun e w' => e = .returned (.bool (x.2 == 0)) ∧ w' = W.alloc (.cells #[.int .i64 x.1, .int .u64 x.2] 54) := by
  obtain ⟨a, b⟩ := x
  simp only
  go_enter Tryz.func166, Tryz.ntmps166
  go_wp2
  go_ret
  exact ⟨rfl, rfl⟩
def zAt (l : List Cnt) : Nat := l.findIdx fun c => c.2 == 0
def zIdx (l : List Cnt) : Int := if zAt l < l.length then (zAt l : Int) else -1
theorem zAt_hit {l : List Cnt} {k : Nat} (hk : k < l.length) (h0 : ∀ j (h : j < l.length), j < k → l[j].2 ≠ 0) (h : l[k].2 = 0) : zIdx l = k := by
  have e : zAt l = k := by
    unfold zAt
    rw [List.findIdx_eq hk]
    exact ⟨by simpa using h, fun j hj => by simpa using h0 j (by omega) hj⟩
  rw [zIdx, e, if_pos hk]
theorem zAt_miss {l : List Cnt} (h0 : ∀ j (h : j < l.length), l[j].2 ≠ 0) : zIdx l = -1 := by
  have e : ¬ zAt l < l.length := by
    unfold zAt
    rw [List.findIdx_lt_length]
    rintro ⟨x, hx, e⟩
    obtain ⟨j, hj, rfl⟩ := List.mem_iff_getElem.1 hx
    exact h0 j hj (by simpa using e)
  rw [zIdx, if_neg e]
set_option maxHeartbeats 1000000 in
theorem index_any (w : World) (B : Nat) (A : Option Addr) (l : List Cnt) (cap : Nat) (h : Cs w B A l) (hB : B ≤ w.heap.size) :
    Calls Tryz.prog 196 #[.slice A l.length cap, .func (.func 166) #[] #[]] w fun e w' => e = .returned (.int .i64 (zIdx l)) ∧ Below w.heap.size w w' := by
  have hl := h.len
  unfold maxLen at hl
  have eg := enters_del
  go_enter Tryz.func196, Tryz.ntmps196
  go_wp2
  go_loopw [8] (fun i wr => ∃ k : Nat, k ≤ l.length ∧ i = .int .i64 k ∧ Hid (∀ j (h : j < l.length), j < k → l[j].2 ≠ 0) ∧ Below w.heap.size w wr) (fun i _ => l.length - (intOf i).toNat)
  case atStart => exact ⟨0, Nat.zero_le _, rfl, fun j _ hj => absurd hj (by omega), Below.refl _ _⟩
  case round =>
    obtain ⟨k, hk, rfl, h0, hb⟩ := hrel
    by_cases hlt : k < l.length
    · obtain ⟨b, off, rfl, hbB, hc⟩ := (h.below (hb.mono hB)).cells (by omega)
      obtain ⟨h1, h2⟩ := hc k l[k] (List.getElem?_eq_getElem hlt)
      clear hc
      have hit := fun (e : l[k].2 = 0) => zAt_hit hlt h0.out e
      have nx : l[k].2 ≠ 0 → Hid (∀ j (h : j < l.length), j < k + 1 → l[j].2 ≠ 0) := fun e j h hj => by
        by_cases ej : j = k
        · subst ej; exact e
        · exact h0.out j h (by omega)
      have hd := fun W => del_any l[k] W
      obtain ⟨c, hcx⟩ : ∃ c, c = l[k] := ⟨_, rfl⟩
      rw [← hcx] at h1 h2 hit nx hd
      replace hcx := Lib.hid hcx
      obtain ⟨a, b'⟩ := c
      simp only at h1 h2 hit nx hd
      by_cases hz : b' = 0
      · have e := hit hz
        subst hz
        have e0 : ((0 : Int) == 0) = true := rfl
        rw [e0] at hd
        replace e := Lib.hid e
        clear hit nx h0 e0
        go_wp2_with (go_at_fn 166; refine (hd _).mono ?_; rintro e w' ⟨rfl, rfl⟩)
        go_ret
        exact ⟨by rw [e.out]; rfl, hb.alloc hb.size _⟩
      · have e := nx hz
        have e0 : (b' == 0) = false := beq_eq_false_iff_ne.2 hz
        rw [e0] at hd
        clear hit nx h0 e0
        go_wp2_with (go_at_fn 166; refine (hd _).mono ?_; rintro e w' ⟨rfl, rfl⟩)
        exact ⟨⟨k + 1, by omega, by go_num, e, hb.alloc hb.size _⟩, by simp [intOf]; omega⟩
    · have e : zIdx l = -1 := zAt_miss fun j h => h0.out j h (by omega)
      clear h0
      go_wp2
      go_ret
      exact ⟨by rw [e]; rfl, hb⟩
theorem nz_snoc_keep {l : List Cnt} {c : Cnt} (h : c.2 ≠ 0) : nz (l ++ [c]) = nz l ++ [c] := by simp [nz, h]
theorem nz_snoc_drop {l : List Cnt} {c : Cnt} (h : c.2 = 0) : nz (l ++ [c]) = nz l := by simp [nz, h]
theorem nz_all {l : List Cnt} (h : ∀ j (h : j < l.length), l[j].2 ≠ 0) : nz l = l := by
  unfold nz
  rw [List.filter_eq_self]
  intro c hc
  obtain ⟨j, hj, rfl⟩ := List.mem_iff_getElem.1 hc
  simpa using h j hj
theorem zIdx_cases (l : List Cnt) : (zIdx l = -1 ∧ nz l = l) ∨ ∃ k, k < l.length ∧ zIdx l = (k : Int) ∧ nz (l.take (k + 1)) = l.take k := by
  by_cases h : zAt l < l.length
  · refine .inr ⟨zAt l, h, by rw [zIdx, if_pos h], ?_⟩
    have hz : l[zAt l].2 = 0 := by
      have := List.findIdx_getElem (p := fun c : Cnt => c.2 == 0) (xs := l) (w := h)
      exact beq_iff_eq.1 this
    rw [List.take_succ_eq_append_getElem h, nz_snoc_drop hz]
    refine nz_all fun j hj => ?_
    rw [List.length_take] at hj
    rw [List.getElem_take]
    have := List.not_of_lt_findIdx (p := fun c : Cnt => c.2 == 0) (xs := l) (i := j) (by unfold zAt at hj; omega)
    simpa using this
  · refine .inl ⟨by rw [zIdx, if_neg h], nz_all fun j hj e => h ?_⟩
    unfold zAt
    rw [List.findIdx_lt_length]
    exact ⟨l[j], List.getElem_mem _, by simpa using e⟩
structure Kp (l dk : List Cnt) (i j : Nat) : Prop where
  len : dk.length = l.length
  head : dk.take i = nz (l.take j)
  rest : dk.drop j = l.drop j
  lt : i < j
theorem Kp.keep {l dk : List Cnt} {i j : Nat} (h : Kp l dk i j) (hj : j < l.length) (hk : l[j].2 ≠ 0) : Kp l (dk.set i l[j]) (i + 1) (j + 1) := by
  have hlt := h.lt
  have hlen := h.len
  refine ⟨by simp [h.len], ?_, ?_, by omega⟩
  · rw [List.take_succ_eq_append_getElem (by simp; omega), List.take_succ_eq_append_getElem hj, nz_snoc_keep hk, ← h.head]
    simp [List.take_set_of_le]
  · rw [List.drop_set_of_lt (by omega)]
    have := congrArg (List.drop 1) h.rest
    simpa [List.drop_drop] using this
theorem Kp.skip {l dk : List Cnt} {i j : Nat} (h : Kp l dk i j) (hj : j < l.length) (hk : l[j].2 = 0) : Kp l dk i (j + 1) := by
  refine ⟨h.len, ?_, ?_, by have := h.lt; omega⟩
  · rw [List.take_succ_eq_append_getElem hj, nz_snoc_drop hk]; exact h.head
  · have := congrArg (List.drop 1) h.rest
    simpa [List.drop_drop] using this
theorem Kp.at {l dk : List Cnt} {i j : Nat} (h : Kp l dk i j) (hj : j < l.length) : dk[j]? = some l[j] := by
  have := congrArg (fun t => t[0]?) h.rest
  simpa [hj] using this
def DelPost (w : World) (base : Nat) (l : List Cnt) (cap : Nat) (e : Ending) (w' : World) : Prop :=
  ∃ A, e = .returned (.slice A (nz l).length cap) ∧ w'.ownsRow base 54 2 (.slice A (nz l).length cap) (nz l).length (flat (nz l)) ∧ Below base w w'
theorem below_two {B : Nat} {w wr : World} (h : RowKit.Below B w wr) (hB : B ≤ w.heap.size) (o1 o2 : Obj) : RowKit.Below B w ((wr.alloc o1).alloc o2) :=
  (h.alloc (Nat.le_trans hB h.size) o1).alloc (Nat.le_trans (Nat.le_trans hB h.size) ((RowKit.Below.refl B wr).alloc (Nat.le_trans hB h.size) o1).size) o2
set_option maxHeartbeats 2000000 in
theorem delete_any (w : World) (base : Nat) (A : Option Addr) (l : List Cnt) (cap : Nat) (h : w.ownsRow base 54 2 (.slice A l.length cap) l.length (flat l)) (hok : ∀ c ∈ l, okC c) (hb : base ≤ w.heap.size) :
    Calls Tryz.prog 165 #[.slice A l.length cap, .func (.func 166) #[] #[]] w (DelPost w base l cap) := by
  have hc := cs_of_own h hok
  have ci := index_any w w.heap.size A l cap hc (Nat.le_refl _)
  have hl := hc.len
  unfold maxLen at hl
  obtain ⟨i0, hi, hz0, hz1, hz2⟩ := info_parts infoCount
  have eg := enters_del
  clear hc
  rcases zIdx_cases l with ⟨e1, e2⟩ | ⟨k, hk, e1, e2⟩
  · have fin : ∀ w', Below w.heap.size w w' → DelPost w base l cap (.returned (.slice A l.length cap)) w' := fun w' hb' => by
      refine ⟨A, by rw [e2], ?_, hb'.mono hb⟩
      rw [e2]; exact own_later h hb'
    rw [e1] at ci
    replace fin := Lib.hid fin
    clear h e1 e2
    go_enter Tryz.func165, Tryz.ntmps165
    go_wp2_with (go_at_call 196; refine ci.mono ?_; rintro e w' ⟨rfl, hb'⟩)
    go_ret
    exact fin.out _ hb'
  · rw [e1] at ci
    have hA : ∃ g, A = some ⟨g, 0, none⟩ := by
      rcases h.2 with ⟨h1, h2⟩ | ⟨g, cap', cur, h1, h2⟩
      · omega
      · cases h1; exact ⟨g, rfl⟩
    obtain ⟨g, rfl⟩ := hA
    have hne : ((k : Int) == -1) = false := beq_eq_false_iff_ne.2 (by omega)
    have hcap : l.length ≤ cap ∧ cap ≤ maxLen := by
      obtain ⟨_, _, x1, x2, x3, _⟩ := own_form h
      cases x1; exact ⟨x2, x3⟩
    unfold maxLen at hcap
    obtain ⟨hcap1, hcap2⟩ := hcap
    have hgb : base ≤ g := (h.lt g rfl).1
    replace e2 := Lib.hid e2
    replace hok := Lib.hid hok
    clear e1
    obtain ⟨N, hN⟩ : ∃ N, N = l.length := ⟨_, rfl⟩
    rw [← hN] at h ci hl hk hcap1 ⊢
    replace hN := Lib.hid hN
    go_enter Tryz.func165, Tryz.ntmps165
    go_wp2_with (go_at_call 196; refine ci.mono ?_; rintro e w1 ⟨rfl, hb1⟩)
    have st : Hid (∃ dk, Kp l dk k (k + 1) ∧ w1.ownsRow base 54 2 (.slice (some ⟨g, 0, none⟩) N cap) N (flat dk) ∧ Below base w w1) := ⟨l, ⟨rfl, e2.out.symm, rfl, by omega⟩, own_later h hb1, hb1.mono hb⟩
    clear h hb1 e2 ci
    go_wp2_with fail
    go_loopg [5, 6] (N) (fun kx s5 s6 wr => ∃ (i j : Nat), s5 = .int .i64 (i : Int) ∧ s6 = .int .i64 (j : Int) ∧ i < j ∧ j ≤ N ∧ N - j ≤ kx ∧ Hid (∃ dk, Kp l dk i j ∧ wr.ownsRow base 54 2 (.slice (some ⟨g, 0, none⟩) N cap) N (flat dk) ∧ Below base w wr))
    case atStart => exact ⟨k, k + 1, rfl, by simp, by omega, by omega, by omega, st⟩
    case round =>
      clear st hne hk
      obtain ⟨i, j, rfl, rfl, hij, hjN, hkx, hall⟩ := hrel
      obtain ⟨dk, K, ho, hbw⟩ := hall.out
      clear hall
      by_cases hlt : j < N
      · obtain ⟨x, hx⟩ : ∃ x, x = l[j]'(by rw [← hN.out]; exact hlt) := ⟨_, rfl⟩
        have hat := K.at (by rw [← hN.out]; exact hlt)
        rw [← hx] at hat
        obtain ⟨f1, f2⟩ := flat_get dk j x hat
        have c1 : wr.cell? ⟨g, j * 2, none⟩ = some (.int .i64 x.1) := (ho.cellAt (j * 2) (by omega)).trans f1
        have c2 : wr.cell? ⟨g, j * 2 + 1, none⟩ = some (.int .u64 x.2) := (ho.cellAt (j * 2 + 1) (by omega)).trans f2
        have hd := fun W => del_any x W
        by_cases hz : x.2 = 0
        · have K2 : Hid (Kp l dk i (j + 1)) := K.skip (by rw [← hN.out]; exact hlt) (by rw [← hx]; exact hz)
          have e0 : (x.2 == 0) = true := by rw [hz]; rfl
          rw [e0] at hd
          obtain ⟨a, b⟩ := x
          replace hx := Lib.hid hx
          simp only at c1 c2 hd hz
          clear f1 f2 hat K e0
          subst hz
          go_wp2_with (go_at_fn 166; refine (hd _).mono ?_; rintro e w' ⟨rfl, rfl⟩)
          go_roundg (N - (j + 1))
          case measure => omega
          case rel => exact ⟨i, j + 1, rfl, by go_num, by omega, by omega, by omega, ⟨dk, K2.out, (ho.alloc _).alloc _, below_two hbw hb _ _⟩⟩
        · have K2 : Hid (Kp l (dk.set i x) (i + 1) (j + 1)) := by rw [hx]; exact K.keep (by rw [← hN.out]; exact hlt) (by rw [← hx]; exact hz)
          have e0 : (x.2 == 0) = false := beq_eq_false_iff_ne.2 hz
          rw [e0] at hd
          have hset := flat_set2 dk i x
          obtain ⟨a, b⟩ := x
          replace hx := Lib.hid hx
          simp only at hset
          simp only at c1 c2 hd hz
          have own2 := fun o1 o2 => (ho.alloc o1).alloc o2
          have hil : i * 2 + 1 < (flat dk).length := by rw [ho.1]; omega
          obtain ⟨u1, hu1⟩ : ∃ u, (flat dk)[i * 2]? = some u := ⟨_, List.getElem?_eq_getElem (by omega)⟩
          obtain ⟨u2, hu2⟩ : ∃ u, (flat dk)[i * 2 + 1]? = some u := ⟨_, List.getElem?_eq_getElem (by omega)⟩
          have q1 : ∀ o1 o2, ((wr.alloc o1).alloc o2).cell? ⟨g, i * 2, none⟩ = some u1 := fun o1 o2 => ((own2 o1 o2).cellAt _ (by omega)).trans hu1
          have q2 : ∀ o1 o2, ((wr.alloc o1).alloc o2).frozen? ⟨g, i * 2, none⟩ = false := fun o1 o2 => (own2 o1 o2).frozenAt _
          have q3 : ∀ o1 o2 v, (((wr.alloc o1).alloc o2).setCell ⟨g, i * 2, none⟩ v).cell? ⟨g, i * 2 + 1, none⟩ = some u2 := fun o1 o2 v => (((own2 o1 o2).stored (i * 2) v).1.cellAt _ (by omega)).trans (by rw [List.getElem?_set_ne (by omega)]; exact hu2)
          have q4 : ∀ o1 o2 v, (((wr.alloc o1).alloc o2).setCell ⟨g, i * 2, none⟩ v).frozen? ⟨g, i * 2 + 1, none⟩ = false := fun o1 o2 v => ((own2 o1 o2).stored (i * 2) v).1.frozenAt _
          have t1 : ∀ o1 o2 w2, w2 = (((wr.alloc o1).alloc o2).setCell ⟨g, i * 2, none⟩ (.int .i64 a)).setCell ⟨g, i * 2 + 1, none⟩ (.int .u64 b) → Hid (w2.ownsRow base 54 2 (.slice (some ⟨g, 0, none⟩) N cap) N (flat (dk.set i (a, b))) ∧ RowKit.Below base w w2) := fun o1 o2 w2 e => by
            subst e
            have y1 := ((own2 o1 o2).stored (i * 2) (.int .i64 a)).1.stored (i * 2 + 1) (.int .u64 b)
            rw [hset] at y1
            exact ⟨y1.1, ((below_two hbw hb o1 o2).setCell hgb _).setCell hgb _⟩
          clear f1 f2 hat K e0 own2 hset hil hu1 hu2
          go_wp2_with (go_at_fn 166; refine (hd _).mono ?_; rintro e w' ⟨rfl, rfl⟩)
          go_roundg (N - (j + 1))
          case measure => omega
          case rel => exact ⟨i + 1, j + 1, by go_num, by go_num, by omega, by omega, by omega, ⟨_, K2.out, (t1 _ _ _ rfl).out.1, (t1 _ _ _ rfl).out.2⟩⟩
      · obtain rfl : j = N := by omega
        have e3 : dk.take i = nz l := by rw [K.head, hN.out, List.take_length]
        have e4 : (nz l).length = i := by rw [← e3, List.length_take, K.len, ← hN.out]; omega
        have fin : ∀ w', w'.ownsRow base 54 2 (.slice (some ⟨g, 0, none⟩) i cap) i (flat (dk.take i)) → RowKit.Below base w w' → DelPost w base l cap (.returned (.slice (some ⟨g, 0, none⟩) i cap)) w' := fun w' y1 y2 => by
          rw [e3] at y1
          exact ⟨_, by rw [e4], by rw [e4]; exact y1, y2⟩
        have hcl : ∀ ty, ∃ w', (Builtin.clear_ #[46] ty #[.slice (some ⟨g, i * 2, none⟩) (j - i) (cap - i)]).run Tryz.prog wr = .ok (.tuple #[]) w' ∧ w'.ownsRow base 54 2 (.slice (some ⟨g, 0, none⟩) i cap) i (flat (dk.take i)) ∧ wr.grownBy w' (some g) := fun ty => by
          have := run_clear_own (P := Tryz.prog) (ty := ty) 2 (t := 46) (by kernel_rfl) hi hz0 rfl (by simp [Value.cells, Value.oneCell']) (by omega) ho (k := i) (by omega) (i * 2) rfl (cap - i)
          rwa [flat_take] at this
        obtain ⟨w', c1, c2, c3⟩ := hcl 0
        replace fin := Lib.hid (fin w' c2 (hbw.grown c3 (Nat.le_trans hb hbw.size) (fun k hk => by cases hk; exact hgb)))
        clear c2 c3 hcl e3 e4 K ho
        go_wp2
        go_ret
        exact fin.out
end Go.Proofs.YtpiegngjpnpohaaGreat.Mg
