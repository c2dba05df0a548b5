/- Parse. -/
import Derived.Test.YtgjcdhcbniholaaGreatLaD
namespace Go.Proofs.YtgjcdhcbniholaaGreat.La
open Go.RowKit Go.Proofs.YtgjcdhcbniholaaGreat.Sl
set_option linter.unusedVariables false

theorem results_four {fn : Func} {t u v x : Tmp} (h : fn.results = #[.tmp t, .tmp u, .tmp v, .tmp x]) (tmps : Array Value) (P : Program) (w : World) :
    (results fn tmps).run P w = .ok (.tuple #[tmps.getD t undef, tmps.getD u undef, tmps.getD v undef, tmps.getD x undef]) w := by
  simp [results, h]

def ParPost (w : World) (r : SRes) (e : Ending) (w' : World) : Prop :=
  match r with
  | .ok nm ls => ∃ A c, e = .returned (.tuple #[.string nm, .slice A ls.length c, .int .i64 0, .int .i64 0]) ∧ w'.ownsRow w.heap.size 45 2 (.slice A ls.length c) ls.length (labs ls) ∧ Below w.heap.size w w'
  | .bad x q => e = .returned (.tuple #[.string ⟨#[]⟩, .slice none 0 0, .int .i64 x, .int .i64 (q : Int)]) ∧ Below w.heap.size w w'

theorem below_only {a b : World} {g : Nat} (h : a.grownBy b (some g)) {B : Nat} (hg : B ≤ g) (hB : B ≤ a.heap.size) : Below B a b :=
  ⟨h.os, h.tape, h.output, h.size, fun i hi => h.block i (by omega) (by simp; omega)⟩

theorem Rdr.new (w : World) (s : ByteArray) (t : TypeId) : Rdr (w.alloc (.cells #[.string s, .int .i64 0, .int .i64 0, .int .i64 0] t)) w.heap.size s ((0 : Nat) : Int) 0 0 := by
  refine ⟨by simp, ?_, ?_, ?_, ?_, ?_, ?_, ?_⟩ <;> go_cell

set_option maxHeartbeats 2000000 in
theorem parse_any (s : ByteArray) (hs : s.size ≤ 140737488355328) (w : World) :
    Calls Tryz.prog 8 #[.string s] w (ParPost w (serR s)) := by
  have h0 := Rdr.new w s 51
  have c := series_any h0 hs
  replace c := Lib.hid c
  cases hser : serR s with
  | ok nm ls =>
    rw [hser] at c
    clear h0 hs hser
    go_enter Tryz.func8, Tryz.ntmps8
    go_wp2_with fail
    refine c.out.mono ?_
    rintro e w1 ⟨A, c1, rfl, ho, hg⟩
    go_wp2
    refine bodyPost_ret (results_four rfl _ _ _) rfl ?_
    exact ⟨A, c1, rfl, own_base ho (by simp), (Below.alloc (Below.refl _ _) (Nat.le_refl _) _).trans (below_only hg (Nat.le_refl _) (by simp))⟩
  | bad x q =>
    rw [hser] at c
    clear h0 hs hser
    go_enter Tryz.func8, Tryz.ntmps8
    go_wp2_with fail
    refine c.out.mono ?_
    rintro e w1 ⟨rfl, ⟨p', h1⟩, hg⟩
    obtain ⟨_, d0, d1, d2, d3, d4, d5, d6⟩ := id h1
    go_wp2
    go_quiet (fail)
    go_wp2
    refine bodyPost_ret (results_four rfl _ _ _) rfl ?_
    exact ⟨rfl, below_drewN ((Below.alloc (Below.refl _ _) (Nat.le_refl _) _).trans (below_only hg (Nat.le_refl _) (by simp))) _⟩

end Go.Proofs.YtgjcdhcbniholaaGreat.La
