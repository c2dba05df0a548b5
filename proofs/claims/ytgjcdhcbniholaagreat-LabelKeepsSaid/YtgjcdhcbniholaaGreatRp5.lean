/- strings.Replacer: buildOnce, Replace, NewReplacer. -/
import Derived.Test.YtgjcdhcbniholaaGreatRp4
namespace Go.Proofs.YtgjcdhcbniholaaGreat.Rp
open Go.RowKit
set_option linter.unusedVariables false

/-- The two strings of each pair lie in a row. -/
def Olds (w : World) (q : Nat) (ps : List Pr) : Prop := ∀ j p, ps[j]? = some p → w.cell? ⟨q, 2 * j, none⟩ = some (.string (one p.1)) ∧ w.cell? ⟨q, 2 * j + 1, none⟩ = some (.string (two p.2))

def Fresh (w : World) (R : Nat) (ps : List Pr) : Prop :=
  ∃ q cap, w.heap[R]? = some (.cells #[.int .u32 0, .int .i32 0, .int .u32 0, .nilIface, .slice (some ⟨q, 0, none⟩) (2 * ps.length) cap] 100 (0, 0)) ∧ q < R ∧ NotRow w q ∧ Olds w q ps
def Done (w : World) (R B : Nat) (ps : List Pr) : Prop :=
  ∃ g, w.heap[R]? = some (.cells #[.int .u32 1, .int .i32 0, .int .u32 0, .iface 125 (.pointer (some ⟨g, 0, none⟩)), .slice none 0 0] 100 (0, 0)) ∧ Tab w B g ps
def Rep (w : World) (R B : Nat) (ps : List Pr) : Prop := (Fresh w R ps ∨ Done w R B ps) ∧ R < B

theorem lt_of_heap {w : World} {k : Nat} {o : Obj} (h : w.heap[k]? = some o) : k < w.heap.size := by
  rcases Nat.lt_or_ge k w.heap.size with h' | h'
  · exact h'
  · rw [Array.getElem?_eq_none h'] at h; cases h

theorem Rep.keepU {w w' : World} {R B : Nat} {ps : List Pr} (h : Rep w R B ps) (hs : w.heap.size ≤ w'.heap.size) (hk : ∀ k, (k ≤ R ∨ B ≤ k) → k < w.heap.size → NotRow w k → w'.heap[k]? = w.heap[k]?) : Rep w' R B ps := by
  obtain ⟨h, hRB⟩ := h
  have hR : ∀ {cs}, w.heap[R]? = some (.cells cs 100 (0, 0)) → w'.heap[R]? = w.heap[R]? := fun e => hk R (Or.inl (Nat.le_refl _)) (lt_of_heap e) (fun cur e' => by rw [e] at e'; simp at e')
  refine ⟨?_, hRB⟩
  rcases h with ⟨q, cap, h1, h2, h3, h4⟩ | ⟨g, h1, h2⟩
  · have hl := lt_of_heap h1
    have hq := hk q (Or.inl (by omega)) (by omega) h3
    exact .inl ⟨q, cap, (hR h1).trans h1, h2, fun cur e => h3 cur (hq.symm.trans e), fun j p e => ⟨(World.cell?_of_block hq).trans (h4 j p e).1, (World.cell?_of_block hq).trans (h4 j p e).2⟩⟩
  · exact .inr ⟨g, (hR h1).trans h1, h2.keepU hs fun k a b c => hk k (Or.inr a) b c⟩
theorem Rep.below {w w' : World} {R B : Nat} {ps : List Pr} (h : Rep w R B ps) (k : Below w.heap.size w w') : Rep w' R B ps := h.keepU k.size fun _ _ h2 _ => k.block _ h2

set_option maxRecDepth 100000 in
set_option maxHeartbeats 4000000 in
theorem buildOnce_any (R q cap : Nat) (a0 a1 a2 a3 : Value) (ps : List Pr) (w : World) (hps : 2 ≤ ps.length) (hlen : ps.length ≤ 1000) (hnd : (ps.map (·.1)).Nodup)
    (hR : w.heap[R]? = some (.cells #[a0, a1, a2, a3, .slice (some ⟨q, 0, none⟩) (2 * ps.length) cap] 100 (0, 0))) (hq : Olds w q ps) :
    Calls Tryz.prog 59 #[.pointer (some ⟨R, 0, none⟩)] w fun e w' => e = .returned (.tuple #[]) ∧ ∃ g, w'.heap[R]? = some (.cells #[a0, a1, a2, .iface 125 (.pointer (some ⟨g, 0, none⟩)), .slice none 0 0] 100 (0, 0)) ∧
      Tab w' w.heap.size g ps ∧ w.grownBy w' (some R) := by
  have h4 : w.cell? ⟨R, 4, none⟩ = some (.slice (some ⟨q, 0, none⟩) (2 * ps.length) cap) := by rw [cell_of_row _ _ _ _ _ _ hR]; rfl
  have c := build_any R q cap (2 * ps.length) ps w hps hlen hnd rfl h4 hq
  have hlt := lt_of_heap hR
  replace c := Lib.hid c
  replace hR := Lib.hid hR
  clear h4 hq hnd
  go_enter Tryz.func59, Tryz.ntmps59
  go_wp2_with fail
  refine c.out.mono ?_
  rintro e w2 ⟨g, tv, rfl, hb, ht⟩
  have hR2 := (hb.block R hlt).trans hR.out
  have c3 : w2.cell? ⟨R, 3, none⟩ = some a3 := by rw [cell_of_row _ _ _ _ _ _ hR2]; rfl
  have c4 : w2.cell? ⟨R, 4, none⟩ = some (.slice (some ⟨q, 0, none⟩) (2 * ps.length) cap) := by rw [cell_of_row _ _ _ _ _ _ hR2]; rfl
  have f3 : w2.frozen? ⟨R, 3, none⟩ = false := frozen_of_block hR2
  have f4 : w2.frozen? ⟨R, 4, none⟩ = false := frozen_of_block hR2
  replace hR2 := Lib.hid hR2
  replace ht := Lib.hid ht
  go_wp2
  go_end0
  have hr3 := Lib.heap_setCell_same (i := 4) (Lib.heap_setCell_same (i := 3) hR2.out (.iface 125 (.pointer (some ⟨g, 0, none⟩)))) (.slice none 0 0)
  refine ⟨rfl, g, hr3, (ht.out.done (by omega)).keep (by simp) (fun k h1 h2 => ?_), ?_⟩
  · rw [Below.heap_setCell _ _ _ _ (by simp; try omega), Below.heap_setCell _ _ _ _ (by simp; try omega)]
  · exact La.only_set (La.only_set (La.only_of_below hb _) 3 _) 4 _

/-- What a string comes to. -/
def escS (ps : List Pr) (s : ByteArray) : ByteArray := ⟨(escL ps s.data.toList).toArray⟩

set_option maxRecDepth 100000 in
set_option maxHeartbeats 4000000 in
theorem replace_any (R B : Nat) (ps : List Pr) (s : ByteArray) (w : World) (h : Rep w R B ps) (hB : B ≤ w.heap.size) (hps : 2 ≤ ps.length) (hlen : ps.length ≤ 1000) (hnd : (ps.map (·.1)).Nodup) (hs : s.size + hits ps s.data.toList ≤ 140737488355328) :
    Calls Tryz.prog 33 #[.pointer (some ⟨R, 0, none⟩), .string s] w fun e w' => e = .returned (.string (escS ps s)) ∧ Rep w' R B ps ∧ w.grownBy w' (some R) := by
  have hmf : ∀ (fn : Fn) (first cap : Array Value) (w : World), (Instr.makeFunc fn first cap).run Tryz.prog w = .ok (.func fn first cap) w := fun _ _ _ _ => rfl
  obtain ⟨h, hRB⟩ := h
  rcases h with ⟨q, cap, h1, h2, h3, h4⟩ | ⟨g, h1, h2⟩
  · have hlt := lt_of_heap h1
    have z0 : w.cell? ⟨R, 0, none⟩ = some (.int .u32 0) := by rw [cell_of_row _ _ _ _ _ _ h1]; rfl
    have z1 : w.cell? ⟨R, 1, none⟩ = some (.int .i32 0) := by rw [cell_of_row _ _ _ _ _ _ h1]; rfl
    have f1 : w.frozen? ⟨R, 1, none⟩ = false := frozen_of_block h1
    have hr1 := Lib.heap_setCell_same (i := 1) h1 (.int .i32 1)
    have ho1 : Olds (w.setCell ⟨R, 1, none⟩ (.int .i32 1)) q ps := fun j p e => by
      rw [World.cell?_setCell_other _ _ _ _ (by intro e; simp at e; try omega), World.cell?_setCell_other _ _ _ _ (by intro e; simp at e; try omega)]
      exact h4 j p e
    have hcall := buildOnce_any R q cap _ _ _ _ ps _ hps hlen hnd hr1 ho1
    have hdo := do_first R w _ z0 z1 f1 hcall (by
      rintro w' ⟨g, hg, _⟩
      refine ⟨by rw [cell_of_row _ _ _ _ _ _ hg]; rfl, by rw [cell_of_row _ _ _ _ _ _ hg]; rfl, frozen_of_block hg, frozen_of_block hg⟩)
    replace hdo := Lib.hid hdo
    clear hcall ho1 hr1 z0 z1 f1 h4 h3
    replace h1 := Lib.hid h1
    replace hnd := Lib.hid hnd
    go_enter Tryz.func33, Tryz.ntmps33
    go_wp2_with fail
    refine hdo.out.mono ?_
    rintro e w3 ⟨rfl, w2, ⟨g, hg, ht, hgr⟩, rfl⟩
    have hsz2 := hgr.size
    simp only [World.size_setCell] at hsz2
    have hr3 := Lib.heap_setCell_same (i := 1) (Lib.heap_setCell_same (w := w2.drew) (i := 0) hg (.int .u32 1)) (.int .i32 0)
    have htab := (ht.keep (w' := (w2.drew.setCell ⟨R, 0, none⟩ (.int .u32 1)).setCell ⟨R, 1, none⟩ (.int .i32 0)) (by simp) (fun k k1 k2 => by
      simp only [World.size_setCell] at k1
      rw [Below.heap_setCell _ _ _ _ (by simp; try omega), Below.heap_setCell _ _ _ _ (by simp; try omega)]; rfl)).weaken (B' := B) (by simp; omega)
    have hgr3 : w.grownBy ((w2.drew.setCell ⟨R, 0, none⟩ (.int .u32 1)).setCell ⟨R, 1, none⟩ (.int .i32 0)) (some R) := by
      refine La.only_set (La.only_set (La.only_drew ?_) 0 _) 1 _
      exact La.only_trans (La.only_set (La.only_refl w (some R)) 1 _) hgr
    obtain ⟨w3, hw3⟩ : ∃ w3, w3 = (w2.drew.setCell ⟨R, 0, none⟩ (.int .u32 1)).setCell ⟨R, 1, none⟩ (.int .i32 0) := ⟨_, rfl⟩
    rw [← hw3] at hr3 htab hgr3 ⊢
    clear hw3 ht hg hgr hdo hsz2
    have z3 : w3.cell? ⟨R, 3, none⟩ = some (.iface 125 (.pointer (some ⟨g, 0, none⟩))) := by rw [cell_of_row _ _ _ _ _ _ hr3]; rfl
    have cr := repl_any g B ps s w3 htab hlen hnd.out hs
    have hl3 := lt_of_heap hr3
    replace cr := Lib.hid cr
    replace htab := Lib.hid htab
    replace hr3 := Lib.hid hr3
    clear hs
    go_wp2_with fail
    refine cr.out.mono ?_
    rintro e w4 ⟨rfl, hb4⟩
    go_wp2
    go_ret
    exact ⟨rfl, ⟨.inr ⟨g, (hb4.block R hl3).trans hr3.out, htab.out.below hb4⟩, hRB⟩, La.only_trans hgr3 (La.only_of_below hb4 _)⟩
  · have hlt := lt_of_heap h1
    have z0 : w.cell? ⟨R, 0, none⟩ = some (.int .u32 1) := by rw [cell_of_row _ _ _ _ _ _ h1]; rfl
    have z3 : w.cell? ⟨R, 3, none⟩ = some (.iface 125 (.pointer (some ⟨g, 0, none⟩))) := by rw [cell_of_row _ _ _ _ _ _ h1]; rfl
    have hdo := do_done ⟨R, 0, none⟩ 1 (by decide) (.func (.func 59) #[.pointer (some ⟨R, 0, none⟩)] #[]) w z0
    have cr := repl_any g B ps s w h2 hlen hnd hs
    replace hdo := Lib.hid hdo
    replace cr := Lib.hid cr
    replace h2 := Lib.hid h2
    replace h1 := Lib.hid h1
    clear hs hnd
    go_enter Tryz.func33, Tryz.ntmps33
    go_wp2_with fail
    refine hdo.out.mono ?_
    rintro e w3 ⟨rfl, hw3⟩
    rw [hw3]; clear hw3 w3
    go_wp2_with fail
    refine cr.out.mono ?_
    rintro e w4 ⟨rfl, hb4⟩
    go_wp2
    go_ret
    exact ⟨rfl, ⟨.inr ⟨g, (hb4.block R hlt).trans h1.out, h2.out.below hb4⟩, hRB⟩, La.only_of_below hb4 _⟩
end Go.Proofs.YtgjcdhcbniholaaGreat.Rp
