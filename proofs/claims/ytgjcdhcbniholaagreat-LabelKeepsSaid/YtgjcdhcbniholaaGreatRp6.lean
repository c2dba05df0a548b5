/- strings.NewReplacer; Help. -/
import Derived.Test.YtgjcdhcbniholaaGreatRp5
import Derived.Deep.AppendLies
namespace Go.Proofs.YtgjcdhcbniholaaGreat.Rp
open Go.RowKit
set_option linter.unusedVariables false

def oldV (ps : List Pr) : List Value := ps.flatMap fun p => [.string (one p.1), .string (two p.2)]
theorem oldV_len (ps : List Pr) : (oldV ps).length = 2 * ps.length := by
  induction ps with
  | nil => rfl
  | cons p ps ih => simp [oldV] at *; omega
theorem oldV_get : ∀ (ps : List Pr) (j : Nat) (p : Pr), ps[j]? = some p → (oldV ps)[2 * j]? = some (.string (one p.1)) ∧ (oldV ps)[2 * j + 1]? = some (.string (two p.2))
  | [], j, p, h => by simp at h
  | r :: ps, 0, p, h => by
    obtain rfl : r = p := by simpa using h
    exact ⟨rfl, rfl⟩
  | r :: ps, j + 1, p, h => by
    have := oldV_get ps j p (by simpa using h)
    rw [show 2 * (j + 1) = 2 * j + 2 by omega]
    exact this

set_option maxRecDepth 100000 in
set_option maxHeartbeats 4000000 in
/-- The pairs are handed over in a block of their own. -/
theorem new_any (q0 cap0 N : Nat) (ps : List Pr) (w : World) (hps : 2 ≤ ps.length) (hlen : ps.length ≤ 1000) (hN : N = 2 * ps.length) (hq : ∀ j u, (oldV ps)[j]? = some u → w.cell? ⟨q0, j, none⟩ = some u) :
    Calls Tryz.prog 30 #[.slice (some ⟨q0, 0, none⟩) N cap0] w fun e w' => ∃ R, e = .returned (.pointer (some ⟨R, 0, none⟩)) ∧ w.heap.size ≤ R ∧ Fresh w' R ps ∧ R < w'.heap.size ∧ Below w.heap.size w w' := by
  have hinf : (Tryz.prog.info? 9).map (fun i => (i.zero, i.size, i.bytes)) = some (some (.string ⟨#[]⟩), 1, 16) := by kernel_rfl
  obtain ⟨i0, hi0, hz0⟩ := Option.map_eq_some_iff.1 hinf
  simp only [Prod.mk.injEq] at hz0
  obtain ⟨hz0, hz1, hz2⟩ := hz0
  have hNI : (N : Int) ≤ 2000 := by omega
  have hN2 : N ≤ 2000 := by omega
  have hN0 : 0 < N := by omega
  have hmod : (N : Int).tmod 2 = 0 := by rw [Int.tmod_eq_emod_of_nonneg (by omega)]; omega
  have hol := oldV_len ps
  rw [← hN] at hol
  obtain ⟨V, hV⟩ : ∃ V, V = oldV ps := ⟨_, rfl⟩
  rw [← hV] at hol hq
  replace hV := Lib.hid hV
  have h1c : ∀ u ∈ V, u.oneCell' = true := by
    rw [hV.out]
    intro u hu
    simp [oldV] at hu
    obtain ⟨_, _, _, h | h⟩ := hu <;> subst h <;> rfl
  replace h1c := Lib.hid h1c
  replace hq := Lib.hid hq
  replace hN := Lib.hid hN
  go_enter Tryz.func30, Tryz.ntmps30
  go_wp2_with (at_builtin; refine wpList_append_lies _ rfl _ _ _ rfl w.heap.size 9 i0 _ 1 16 Tryz.underlying22 hi0 hz0 hz1 hz2 rfl (by decide) _ 0 [] (by rfl) (World.ownsRow_nil _ _ _ _) ⟨q0, 0, none⟩ N cap0 V (by rfl) (by rw [hol]; omega) (by intro j u hu; rw [WideShapes.add_plain, Nat.zero_add]; exact hq.out j u hu) h1c.out hN0 (by unfold maxLen; omega) (by omega) (Nat.le_refl _) _ rfl ?_; intro gg cap w1 hown1 hgrow hat hlt1)
  go_ret
  have hgg : gg = w.heap.size := by
    rcases hat with h | h
    · simp [Value.ownBlock] at h
    · exact h
  simp only [Nat.zero_add, List.nil_append] at hown1
  have hb : Below w.heap.size w w1 := (Below.refl _ _).grown hgrow (Nat.le_refl _) (fun k hk => by simp [Value.ownBlock] at hk)
  refine ⟨w1.heap.size, rfl, hgrow.size, ⟨gg, cap, ?_, hlt1, ?_, ?_⟩, by simp, hb.alloc hgrow.size _⟩
  · rw [heap_alloc_new, hN.out]
  · intro cur e
    rw [heap_alloc_old _ _ hlt1] at e
    rcases hown1.2 with ⟨h', _⟩ | ⟨g', cap', cur', h', _, hg, _⟩
    · simp at h'
    · simp at h'
      obtain ⟨rfl, _⟩ := h'
      rw [hg] at e
      simp at e
  · intro j p hj
    have hjl : j < ps.length := (List.getElem?_eq_some_iff.1 hj).1
    have hN' := hN.out
    obtain ⟨o1, o2⟩ := oldV_get ps j p hj
    rw [World.cell?_alloc_past _ _ _ hlt1, World.cell?_alloc_past _ _ _ hlt1, hown1.cellAt (2 * j) (by omega), hown1.cellAt (2 * j + 1) (by omega), hV.out]
    exact ⟨o1, o2⟩

def pH : List Pr := [(92, 92), (10, 110)]
def pP : List Pr := [(92, 92), (34, 34), (10, 110)]

set_option maxRecDepth 100000 in
set_option maxHeartbeats 4000000 in
theorem help_big (s : ByteArray) (hs : s.size + hits pH s.data.toList ≤ 140737488355328) (w : World) :
    Calls Tryz.prog 14 #[.string s] w fun e w' => e = .returned (.string (escS pH s)) ∧ Below w.heap.size w w' := by
  have cn := new_any w.heap.size 4 4 pH (w.alloc (.cells #[.string ⟨#[92]⟩, .string ⟨#[92, 92]⟩, .string ⟨#[10]⟩, .string ⟨#[92, 110]⟩] 9)) (by decide) (by decide) rfl (by
    intro j u hu
    rw [cell_of_row _ _ _ _ _ _ (heap_alloc_new _ _), ← Array.getElem?_toList]
    exact hu)
  have cr := fun R w' h hB => replace_any R (R + 1) pH s w' h hB (by decide) (by decide) (by decide) hs
  replace cn := Lib.hid cn
  replace cr := Lib.hid cr
  clear hs
  go_enter Tryz.func14, Tryz.ntmps14
  go_wp2_with fail
  refine cn.out.mono ?_
  rintro e w1 ⟨R, rfl, hR, hF, hlt, hb⟩
  have c := cr.out R w1 ⟨.inl hF, Nat.lt_succ_self _⟩ hlt
  replace c := Lib.hid c
  clear cn cr hF
  go_wp2_with fail
  refine c.out.mono ?_
  rintro e w2 ⟨rfl, _, hg⟩
  go_wp2
  go_ret
  simp only [World.size_alloc] at hR hb
  refine ⟨rfl, ((((Below.refl _ _).alloc (Nat.le_refl _) _).trans (hb.mono (by omega))).grown hg (by omega) (fun k hk => ?_))⟩
  simp at hk
  omega

theorem hits_two (ps : List Pr) (s : ByteArray) (hs : s.size ≤ 70368744177664) : s.size + hits ps s.data.toList ≤ 140737488355328 := by
  have := hits_le ps s.data.toList
  rw [La.len_data] at this
  omega
theorem help_any (s : ByteArray) (hs : s.size ≤ 70368744177664) (w : World) :
    Calls Tryz.prog 14 #[.string s] w fun e w' => e = .returned (.string (escS pH s)) ∧ Below w.heap.size w w' := help_big s (hits_two pH s hs) w
end Go.Proofs.YtgjcdhcbniholaaGreat.Rp
