/- Merge of package ranks. -/
import Derived.Test.YtonacegkhkncmaaMg2
import Derived.Test.YtonacegkhkncmaaSt6
namespace Go.Proofs.Ytonacegkhkncmaa.Mg
open Go.RowKit Go.Shelf Go.Sort Go.Proofs Go.Lib Go.Proofs.Ytonacegkhkncmaa.Sl Go.Proofs.Ytonacegkhkncmaa.Rk Go.Proofs.Ytonacegkhkncmaa.St
set_option linter.unusedVariables false

/-! Sorting, of a row of one's own. -/
def SortedPost (w : World) (base : Nat) (A : Option Addr) (l : List Cnt) (e : Ending) (w' : World) : Prop :=
  e = .returned (.tuple #[]) ∧ ∃ L : List Cnt, L.Perm l ∧ Srt L ∧ Rd w' w'.heap.size 2 A (flat L) L.length ∧ RowKit.Below base w w'

theorem insertion_none (w : World) : Calls Try.prog 64 #[.slice none 0 0, .int .i64 0, .int .i64 0, .func (.func 51) #[] #[]] w fun e w' => e = .returned (.tuple #[]) ∧ w = w' := by
  go_enter Try.func64, Try.ntmps64
  go_wp2
  go_loopg [8] (0) (fun kx i wr => i = .int .i64 1 ∧ wr = w)
  case atStart => exact ⟨by simp, rfl⟩
  case round =>
    obtain ⟨rfl, hw⟩ := hrel
    obtain rfl := hw.symm
    clear hw
    go_wp2
    go_end0
    exact ⟨rfl, rfl⟩
theorem stable_none (w : World) : Calls Try.prog 61 #[.slice none 0 0, .int .i64 0, .func (.func 51) #[] #[]] w fun e w' => e = .returned (.tuple #[]) ∧ w = w' := by
  have ins := insertion_none w
  go_enter Try.func61, Try.ntmps61
  go_wp2
  go_loopg [7, 8] (0) (fun kx s7 s8 wr => s7 = .int .i64 0 ∧ s8 = .int .i64 20 ∧ wr = w)
  case atStart => exact ⟨rfl, by simp, rfl⟩
  case round =>
    obtain ⟨rfl, rfl, hw⟩ := hrel
    obtain rfl := hw.symm
    clear hw
    go_wp2_with (refine ins.mono ?_; rintro e w' ⟨rfl, rfl⟩)
    go_loopg [6] (0) (fun kx i wr => i = .int .i64 20 ∧ wr = w)
    case atStart => exact ⟨rfl, rfl⟩
    case round =>
      obtain ⟨rfl, hw⟩ := hrel
      obtain rfl := hw.symm
      clear hw
      go_wp2
      go_end0
      exact ⟨rfl, rfl⟩
theorem sort_none (w : World) : Calls Try.prog 50 #[.slice none 0 0, .func (.func 51) #[] #[]] w fun e w' => e = .returned (.tuple #[]) ∧ w = w' := by
  have ins := stable_none w
  go_enter Try.func50, Try.ntmps50
  go_wp2_with (refine ins.mono ?_; rintro e w' ⟨rfl, rfl⟩)
  go_end0
  exact ⟨rfl, rfl⟩
theorem sort_any (w : World) (base : Nat) (A : Option Addr) (l : List Cnt) (cap : Nat) (h : w.ownsRow base 55 2 (.slice A l.length cap) l.length (flat l)) (hb : base ≤ w.heap.size) (hs : l.length ≤ 4194304) :
    Calls Try.prog 50 #[.slice A l.length cap, .func (.func 51) #[] #[]] w (SortedPost w base A l) := by
  rcases h.2 with ⟨h1, h2⟩ | ⟨g, cap', cur, h1, h2, _⟩
  · obtain rfl : l = [] := List.eq_nil_of_length_eq_zero h2
    cases h1
    refine (sort_none w).mono ?_
    rintro e w' ⟨rfl, rfl⟩
    exact ⟨rfl, [], List.Perm.refl _, List.Pairwise.nil, Rd.nil _ _ _ _, RowKit.Below.refl _ _⟩
  · cases h1
    have C := rowC_of_own h (by omega)
    have e0 : l.toArray.size = l.length := by simp
    have c := sort_stable w w g 0 cap 51 l.toArray l C e0 (by rw [e0]; omega) (SWK.start C.1.hH)
    rw [e0] at c
    refine c.mono ?_
    rintro e w' ⟨rfl, L, p, s, S⟩
    have hg := (h.lt g rfl).1
    refine ⟨rfl, L, p, s, ?_, below_swk S hg hb⟩
    exact rd_of_swk S C.1 (by rw [e0]; exact p.length_eq)

/-! The whole. -/
theorem mrg_len_pos (r : List Cnt) (c : Cnt) : 0 < (r ++ [c]).length := by simp
/-- One round of laying together: what stands ahead of it. -/
theorem clp_last {L : List Cnt} (hs : Srt L) {k : Nat} (hk : k < L.length) : (k = 0 ∧ clp (L.take k) = []) ∨ ∃ r j n, clp (L.take k) = r ++ [(j, n)] ∧ 0 < k ∧ ∃ m, L[k - 1]? = some (j, m) := by
  rcases Nat.eq_zero_or_pos k with rfl | h0
  · exact .inl ⟨rfl, by simp [clp]⟩
  · right
    have h3 := (clp_rise (L.take k) (Srt.take hs k)).2.2
    rw [List.getLast?_take, if_neg (by omega)] at h3
    obtain ⟨m, hm⟩ : ∃ m, L[k - 1]? = some m := ⟨_, List.getElem?_eq_getElem (by omega)⟩
    rw [hm] at h3
    simp only [Option.or, Option.map_some] at h3
    rcases List.eq_nil_or_concat (clp (L.take k)) with e | ⟨r, d, e⟩
    · rw [e] at h3; simp at h3
    · rw [List.concat_eq_append] at e
      rw [e, List.getLast?_concat] at h3
      simp at h3
      exact ⟨r, d.1, d.2, e, h0, m.2, by rw [hm, h3]⟩
theorem stp_len (o : List Cnt) (c : Cnt) : (stp o c).length ≤ o.length + 1 := by
  unfold stp
  rcases List.eq_nil_or_concat o with rfl | ⟨r, d, rfl⟩
  · simp
  · rw [List.concat_eq_append, List.getLast?_concat]
    simp only
    split <;> simp
theorem clp_len (l : List Cnt) : (clp l).length ≤ l.length := by
  refine snoc_cases (p := fun l => (clp l).length ≤ l.length) (Nat.le_refl _) (fun s c ih => ?_) l
  rw [clp_snoc]
  have := stp_len (clp s) c
  simp; omega
theorem okC_okN {l : List Cnt} (h : ∀ c ∈ l, okC c) : okN l := fun c hc => by
  have := h c hc
  unfold okC at this
  simp only [two64]; omega
theorem okC_clp {L : List Cnt} (hs : Srt L) (h : ∀ c ∈ L, okC c) : ∀ c ∈ clp L, okC c := by
  intro c hc
  have h1 := okN_clp L (okC_okN h) c hc
  obtain ⟨d, hd, e⟩ := (clp_rise L hs).2.1 c hc
  have h2 := h d hd
  unfold okC at *
  simp only [two64] at h1
  omega

def MrgPost (w : World) (l : List Cnt) (e : Ending) (w' : World) : Prop :=
  ∃ A c, e = .returned (.slice A l.length c) ∧ w'.ownsRow w.heap.size 55 2 (.slice A l.length c) l.length (flat l) ∧ RowKit.Below w.heap.size w w'
end Go.Proofs.Ytonacegkhkncmaa.Mg
