/- The reader: series. -/
import Derived.Test.YtgjcdhcbniholaaGreatLaC
namespace Go.Proofs.YtgjcdhcbniholaaGreat.La
open Go.RowKit Go.Proofs.YtgjcdhcbniholaaGreat.Sl
set_option linter.unusedVariables false

inductive SRes where
  | ok (name : ByteArray) (l : List Lab)
  | bad (er : Int) (at_ : Nat)

/-- The labels from a place on. -/
def serF (s nm : ByteArray) : Nat → Nat → List Lab → SRes
  | 0, i, _ => .bad 3 i
  | f + 1, i, acc =>
    match labR s acc i with
    | .bad e q => .bad e q
    | .ok x next =>
      if isAt s next 44 then serF s nm f (next + 1) (acc ++ [x])
      else if ¬ isAt s next 125 then .bad 5 next
      else if next + 1 < s.size then .bad 5 (next + 1)
      else .ok nm (acc ++ [x])
/-- A series. -/
def serR (s : ByteArray) : SRes :=
  if nameL (rowS true s 0).data.toList = false then .bad 9 0
  else if rowLen true s 0 = s.size then .ok (rowS true s 0) []
  else if ¬ isAt s (rowLen true s 0) 123 then .bad 5 (rowLen true s 0)
  else serF s (rowS true s 0) 17 (rowLen true s 0 + 1) []

def SerPost (w : World) (g : Nat) (s : ByteArray) (r : SRes) (e : Ending) (w' : World) : Prop :=
  match r with
  | .ok nm ls => ∃ A c, e = .returned (.tuple #[.string nm, .slice A ls.length c, .bool true]) ∧ w'.ownsRow w.heap.size 45 2 (.slice A ls.length c) ls.length (labs ls) ∧ w.grownBy w' (some g)
  | .bad x q => e = .returned (.tuple #[.string ⟨#[]⟩, .slice none 0 0, .bool false]) ∧ (∃ p', Rdr w' g s p' x (q : Int)) ∧ w.grownBy w' (some g)

def lenOf : Value → Nat
  | .slice _ n _ => n
  | _ => 0

theorem info41 : (Tryz.prog.info? 45).map (fun i => (i.zero, i.size, i.bytes)) = some (some (.agg #[.string ⟨#[]⟩, .string ⟨#[]⟩]), 2, 32) := by kernel_rfl
theorem one2 (x : Lab) : ∀ u ∈ labV x, u.oneCell' = true := by
  intro u hu
  simp only [labV, List.mem_cons, List.not_mem_nil, or_false] at hu
  rcases hu with rfl | rfl <;> rfl
theorem lab_len (s : ByteArray) (l : List Lab) (p : Nat) {x : Lab} {n : Nat} (h : labR s l p = .ok x n) : l.length ≠ 16 := by
  intro e; unfold labR at h; rw [if_pos e] at h; cases h

theorem Rdr.alloc {w : World} {g : Nat} {s : ByteArray} {p er bad : Int} (h : Rdr w g s p er bad) (o : Obj) : Rdr (w.alloc o) g s p er bad := h.stays (Below.alloc (Below.refl _ _) (Nat.le_refl _) o)

set_option maxRecDepth 100000 in
set_option maxHeartbeats 4000000 in
theorem series_any {w : World} {g : Nat} {s : ByteArray} {er bad : Int} (h : Rdr w g s ((0 : Nat) : Int) er bad) (hs : s.size ≤ 140737488355328) :
    Calls Tryz.prog 24 #[.pointer (some ⟨g, 0, none⟩)] w (SerPost w g s (serR s)) := by
  unfold serR
  obtain ⟨i0, hinf, hz0, hz1, hz2⟩ := info_parts info41
  have hgB := h.lt
  have q0 := rowLen_le true s 0 (Nat.zero_le _)
  rw [Nat.zero_add] at q0
  obtain ⟨R, hR⟩ : ∃ R, R = rowLen true s 0 := ⟨_, rfl⟩
  obtain ⟨nm, hnm⟩ : ∃ nm, nm = rowS true s 0 := ⟨_, rfl⟩
  have hnms : nm.size ≤ 9223372036854775807 := by
    rw [hnm]; unfold rowS; rw [ByteArray.size_extract]; omega
  have cr := mrow_any h true (Nat.zero_le _) hs
  rw [show s.extract 0 (0 + (rowL true (s.data.toList.drop 0)).length) = nm by rw [hnm]; rfl, show 0 + (rowL true (s.data.toList.drop 0)).length = R by rw [hR, Nat.zero_add]; rfl] at cr
  rw [← hR] at q0
  rw [← hR, ← hnm]
  have cn := name_any nm hnms
  clear hnm hR hnms
  replace h := Lib.hid h
  replace cr := Lib.hid cr
  replace cn := Lib.hid cn
  by_cases t1 : nameL nm.data.toList = false
  · rw [if_pos t1]
    rw [t1] at cn
    go_enter Tryz.func24, Tryz.ntmps24
    go_wp2_with fail
    refine cr.out.mono ?_
    rintro e w1 ⟨rfl, h1, o1⟩
    go_wp2_with fail
    refine (cn.out _).mono ?_
    rintro e w' ⟨rfl, hw⟩
    rw [hw]; clear hw w'
    go_wp2_with fail
    refine (fail_any h1 9 0).mono ?_
    rintro e w' ⟨rfl, h2, h3⟩
    go_wp2
    refine bodyPost_ret (results_tmp3 rfl _ _ _) rfl ?_
    exact ⟨rfl, ⟨_, h2⟩, only_trans o1 h3⟩
  · rw [if_neg t1]
    have t1' : nameL nm.data.toList = true := by simpa using t1
    rw [t1'] at cn
    clear t1 t1'
    by_cases t2 : R = s.size
    · rw [if_pos t2]
      have t2i : ((R : Int) == (s.size : Int)) = true := by rw [t2]; simp
      go_enter Tryz.func24, Tryz.ntmps24
      go_wp2_with fail
      refine cr.out.mono ?_
      rintro e w1 ⟨rfl, h1, o1⟩
      go_wp2_with fail
      refine (cn.out _).mono ?_
      rintro e w' ⟨rfl, hw⟩
      rw [hw]; clear hw w'
      obtain ⟨a, b0, b1, b2, b3, b4, b5, b6⟩ := id h1
      clear t2
      go_wp2
      go_quiet (fail)
      go_wp2
      refine bodyPost_ret (results_tmp3 rfl _ _ _) rfl ?_
      exact ⟨none, 0, rfl, World.ownsRow_nil _ _ _ _, only_drewN o1 _⟩
    · rw [if_neg t2]
      have t2i : ((R : Int) == (s.size : Int)) = false := by simp; omega
      clear t2
      have e123 : ∀ w, Calls Tryz.prog 50 #[.pointer (some ⟨g, 0, none⟩), .int .u8 123] w = Calls Tryz.prog 50 #[.pointer (some ⟨g, 0, none⟩), .int .u8 (((123 : UInt8).toNat : Int))] w := fun w => rfl
      have e125 : ∀ w, Calls Tryz.prog 50 #[.pointer (some ⟨g, 0, none⟩), .int .u8 125] w = Calls Tryz.prog 50 #[.pointer (some ⟨g, 0, none⟩), .int .u8 (((125 : UInt8).toNat : Int))] w := fun w => rfl
      replace e123 := Lib.hid e123
      replace e125 := Lib.hid e125
      by_cases t3 : ¬ isAt s R 123
      · rw [if_pos t3]
        have t3' : ∀ h : R < s.size, s[R] ≠ 123 := fun h e => t3 ⟨h, e⟩
        clear t3
        replace t3' := Lib.hid t3'
        go_enter Tryz.func24, Tryz.ntmps24
        go_wp2_with fail
        refine cr.out.mono ?_
        rintro e w1 ⟨rfl, h1, o1⟩
        go_wp2_with fail
        refine (cn.out _).mono ?_
        rintro e w' ⟨rfl, hw⟩
        rw [hw]; clear hw w'
        obtain ⟨a, b0, b1, b2, b3, b4, b5, b6⟩ := id h1
        replace h1 := Lib.hid h1
        replace o1 := Lib.hid o1
        go_wp2
        go_quiet (fail)
        go_wp2_with fail
        rw [e123.out]
        refine (must_no (h1.out.drewN _) 123 q0 t3'.out hs).mono ?_
        rintro e w' ⟨rfl, h2, h3⟩
        go_wp2
        refine bodyPost_ret (results_tmp3 rfl _ _ _) rfl ?_
        exact ⟨rfl, ⟨_, h2⟩, only_trans (only_drewN o1.out _) h3⟩
      · rw [if_neg t3]
        obtain ⟨q1, t3'⟩ : isAt s R 123 := Decidable.not_not.1 t3
        clear t3
        replace t3' := Lib.hid t3'
        go_enter Tryz.func24, Tryz.ntmps24
        go_wp2_with fail
        refine cr.out.mono ?_
        rintro e w1 ⟨rfl, h1, o1⟩
        go_wp2_with fail
        refine (cn.out _).mono ?_
        rintro e w' ⟨rfl, hw⟩
        rw [hw]; clear hw w'
        obtain ⟨a, b0, b1, b2, b3, b4, b5, b6⟩ := id h1
        replace h1 := Lib.hid h1
        replace o1 := Lib.hid o1
        go_wp2
        go_quiet (fail)
        go_wp2_with fail
        rw [e123.out]
        refine (must_yes (h1.out.drewN _) 123 q1 t3'.out hs).mono ?_
        rintro e w2 ⟨rfl, h2, h3⟩
        have o2 := only_trans (only_drewN o1.out _) h3
        clear h3 o1 h1 a b0 b1 b2 b3 b4 b5 b6 cr cn t3' t2i
        replace o2 := Lib.hid o2
        replace h2 := Lib.hid h2
        go_wp2
        go_loopw [6] (fun v wr => ∃ (f i : Nat) (acc : List Lab) (A : Option Addr) (c : Nat), v = .slice A acc.length c ∧ i ≤ s.size ∧ f + acc.length = 17 ∧ acc.length ≤ 16 ∧ Hid (serF s nm f i acc = serF s nm 17 (R + 1) []) ∧ Rdr wr g s (i : Int) er bad ∧
          wr.ownsRow w.heap.size 45 2 (.slice A acc.length c) acc.length (labs acc) ∧ w.grownBy wr (some g)) (fun v wr => 17 - lenOf v)
        case atStart => exact ⟨17, R + 1, [], none, 0, rfl, q1, rfl, by simp, rfl, h2.out, World.ownsRow_nil _ _ _ _, o2.out⟩
        case round =>
          clear h2 o2 w2
          obtain ⟨f, i, acc, A, c, rfl, hi, hf, ha16, hse, hr, ho, hg⟩ := hrel
          obtain ⟨f, rfl⟩ : ∃ f', f = f' + 1 := ⟨f - 1, by omega⟩
          have hse' := hse.out
          rw [serF] at hse'
          have hgs := hg.size
          have hne := own_not ho hgB
          have hup : ∀ k, (Value.slice A acc.length c).ownBlock = some k → w.heap.size ≤ k := fun k hk => own_up ho hk
          have hrd : Rd wr wr.heap.size 2 A (labs acc) acc.length := Rd.of_own ho (fun a ha => (own_lt ho a.block (by rw [ha]; rfl)).2)
          have hA : ∀ a, A = some a → a.block ≠ g := fun a ha e => hne (by rw [ha, ← e]; rfl)
          have cl := label_any (c := c) hr hi hs hrd (Nat.le_refl _) hA ha16
          clear hrd hA hse
          replace hr := Lib.hid hr
          replace cl := Lib.hid cl
          cases hlab : labR s acc i with
          | bad x q =>
            rw [hlab] at hse' cl
            replace hse' := Lib.hid hse'
            go_wp2_with fail
            refine cl.out.mono ?_
            rintro e w3 ⟨⟨y, rfl⟩, h4, h5⟩
            clear hlab
            unfold labelV
            go_wp2
            refine bodyPost_ret (results_tmp3 rfl _ _ _) rfl ?_
            rw [← hse'.out]
            obtain ⟨p', h4⟩ := h4
            exact ⟨rfl, ⟨p', (by repeat (first | exact h4 | refine Rdr.alloc ?_ _))⟩, by repeat (first | exact only_trans hg h5 | refine only_alloc ?_ _)⟩
          | ok x next =>
            rw [hlab] at hse' cl
            simp only [] at hse'
            have hl16 := lab_len s acc i hlab
            clear hlab
            have hnI : (next : Int) ≤ 140737488355328 ∨ True := Or.inr trivial
            clear hnI
            by_cases hlt : next < s.size
            · have hd : decide ((next : Int) < (s.size : Int)) = true := decide_eq_true (by omega)
              have hnI : (next : Int) ≤ 140737488355328 := by omega
              by_cases hk : s[next] = 44
              · have t4 : ((s[next].toNat : Int) == 44) = true := by rw [hk]; rfl
                rw [if_pos ⟨hlt, hk⟩] at hse'
                clear hk
                replace hse' := Lib.hid hse'
                go_wp2_with fail
                refine cl.out.mono ?_
                rintro e w3 ⟨rfl, h4, h5, h6⟩
                unfold labelV
                have ho3 := own_only ho h6 hgB
                have hg3 := only_trans hg h6
                have hsz3 : wr.heap.size ≤ w3.heap.size := h6.size
                have hnw : ∀ j u, [Value.string x.1, Value.string x.2][j]? = some u → ((w3.alloc (.cells #[.string x.1, .string x.2] 45)).alloc (.cells #[.string x.1, .string x.2] 45)).cell? ((⟨w3.heap.size + 1, 0, none⟩ : Addr).add j) = some u := by
                  have h := World.news_of_block (cs := #[Value.string x.1, Value.string x.2]) (heap_alloc_new (w3.alloc (.cells #[.string x.1, .string x.2] 45)) (.cells #[.string x.1, .string x.2] 45))
                  rw [World.size_alloc] at h
                  exact h
                replace hnw := Lib.hid hnw
                replace hg3 := Lib.hid hg3
                clear h6
                go_wp2_with (at_builtin; refine wpList_append_lies _ rfl _ _ _ rfl w.heap.size 45 i0 _ 2 32 Tryz.underlying24 hinf hz0 hz1 hz2 rfl (by decide) _ acc.length (labs acc) (by rfl) ((ho3.alloc _).alloc _) ⟨w3.heap.size + 1, 0, none⟩ 1 1 [.string x.1, .string x.2] (by rfl) (by rfl) hnw.out (one2 x) (by omega) (by unfold maxLen; omega) (by omega) (by simp; omega) _ rfl ?_; intro gg cap w4 ho4 hgrow hat hlt4)
                have hb4 : Below w.heap.size w3 w4 := by
                  refine ((Below.refl w.heap.size w3).trans ?_).grown hgrow (by simp; omega) hup
                  repeat (first | exact Below.refl _ _ | refine Below.alloc ?_ (by first | omega | (simp; omega)) _)
                have hsz4 : w3.heap.size ≤ w4.heap.size := Nat.le_trans (by simp only [World.size_alloc]; omega) hgrow.size
                have hr4 := h4.staysB hb4 hgB hsz4
                have hg4 := only_below hg3.out hb4 hsz4
                rw [show labs acc ++ [Value.string x.1, Value.string x.2] = labs (acc ++ [x]) from (labs_snoc acc x).symm] at ho4
                obtain ⟨_, d0, d1, d2, d3, d4, d5, d6⟩ := id hr4
                clear hb4 hgrow hat
                replace hr4 := Lib.hid hr4
                replace hg4 := Lib.hid hg4
                replace ho4 := Lib.hid ho4
                go_wp2
                go_quiet (fail)
                go_wp2
                have hr5 := (hr4.out.drewN nq).set1 ((next : Int) + 1)
                have ho5 := own_only ho4.out (only_set (only_drewN (only_refl w4 (some g)) nq) 1 (.int .i64 ((next : Int) + 1))) hgB
                have hg5 := only_set (only_drewN hg4.out nq) 1 (.int .i64 ((next : Int) + 1))
                exact ⟨⟨f, next + 1, acc ++ [x], some ⟨gg, 0, none⟩, cap, by rw [List.length_append]; rfl, by omega, by simp; omega, by simp; omega, hse', hr5, by rw [List.length_append]; exact ho5, hg5⟩, by simp [lenOf]; omega⟩
              · have t4 : ((s[next].toNat : Int) == 44) = false := by rw [u8_lit s[next] 44 44 rfl]; exact decide_eq_false hk
                rw [if_neg (fun ⟨_, h⟩ => hk h)] at hse'
                clear hk
                by_cases hk2 : s[next] = 125
                · rw [if_neg (fun h => h ⟨hlt, hk2⟩)] at hse'
                  replace hk2 := Lib.hid hk2
                  by_cases hend : next + 1 < s.size
                  · rw [if_pos hend] at hse'
                    obtain ⟨n1, hn1⟩ : ∃ n1, n1 = next + 1 := ⟨_, rfl⟩
                    have hd2 : decide ((n1 : Int) < (s.size : Int)) = true := decide_eq_true (by omega)
                    have hd3 : n1 < s.size := by omega
                    replace hn1 := Lib.hid hn1
                    replace hse' := Lib.hid hse'
                    go_wp2_with fail
                    refine cl.out.mono ?_
                    rintro e w3 ⟨rfl, h4, h5, h6⟩
                    unfold labelV
                    have ho3 := own_only ho h6 hgB
                    have hg3 := only_trans hg h6
                    have hsz3 : wr.heap.size ≤ w3.heap.size := h6.size
                    have hnw : ∀ j u, [Value.string x.1, Value.string x.2][j]? = some u → ((w3.alloc (.cells #[.string x.1, .string x.2] 45)).alloc (.cells #[.string x.1, .string x.2] 45)).cell? ((⟨w3.heap.size + 1, 0, none⟩ : Addr).add j) = some u := by
                      have h := World.news_of_block (cs := #[Value.string x.1, Value.string x.2]) (heap_alloc_new (w3.alloc (.cells #[.string x.1, .string x.2] 45)) (.cells #[.string x.1, .string x.2] 45))
                      rw [World.size_alloc] at h
                      exact h
                    replace hnw := Lib.hid hnw
                    replace hg3 := Lib.hid hg3
                    clear h6
                    go_wp2_with (at_builtin; refine wpList_append_lies _ rfl _ _ _ rfl w.heap.size 45 i0 _ 2 32 Tryz.underlying24 hinf hz0 hz1 hz2 rfl (by decide) _ acc.length (labs acc) (by rfl) ((ho3.alloc _).alloc _) ⟨w3.heap.size + 1, 0, none⟩ 1 1 [.string x.1, .string x.2] (by rfl) (by rfl) hnw.out (one2 x) (by omega) (by unfold maxLen; omega) (by omega) (by simp; omega) _ rfl ?_; intro gg cap w4 ho4 hgrow hat hlt4)
                    have hb4 : Below w.heap.size w3 w4 := by
                      refine ((Below.refl w.heap.size w3).trans ?_).grown hgrow (by simp; omega) hup
                      repeat (first | exact Below.refl _ _ | refine Below.alloc ?_ (by first | omega | (simp; omega)) _)
                    have hsz4 : w3.heap.size ≤ w4.heap.size := Nat.le_trans (by simp only [World.size_alloc]; omega) hgrow.size
                    have hr4 := h4.staysB hb4 hgB hsz4
                    have hg4 := only_below hg3.out hb4 hsz4
                    rw [show labs acc ++ [Value.string x.1, Value.string x.2] = labs (acc ++ [x]) from (labs_snoc acc x).symm] at ho4
                    obtain ⟨_, d0, d1, d2, d3, d4, d5, d6⟩ := id hr4
                    clear hb4 hgrow hat
                    replace hr4 := Lib.hid hr4
                    replace hg4 := Lib.hid hg4
                    replace ho4 := Lib.hid ho4
                    go_wp2
                    go_quiet (fail)
                    go_wp2_with fail
                    rw [e125.out]
                    refine (must_yes (hr4.out.drewN _) 125 hlt hk2.out hs).mono ?_
                    rintro e w5 ⟨rfl, h6, h7⟩
                    rw [← hn1.out] at h6
                    have ho5 := own_only ho4.out (only_trans (only_drewN (only_refl w4 _) _) h7) hgB
                    have hg5 := only_trans (only_drewN hg4.out _) h7
                    clear h7
                    obtain ⟨_, f0, f1, f2, f3, f4, f5, f6⟩ := id h6
                    replace h6 := Lib.hid h6
                    replace ho5 := Lib.hid ho5
                    replace hg5 := Lib.hid hg5
                    go_wp2
                    go_quiet (fail)
                    go_wp2_with fail
                    refine (fail_any (h6.out.drewN _) 5 n1).mono ?_
                    rintro e w6 ⟨rfl, h8, h9⟩
                    go_wp2
                    refine bodyPost_ret (results_tmp3 rfl _ _ _) rfl ?_
                    rw [← hse'.out]
                    rw [hn1.out] at h8
                    exact ⟨rfl, ⟨_, h8⟩, only_trans (only_drewN hg5.out _) h9⟩
                  · rw [if_neg hend] at hse'
                    obtain ⟨n1, hn1⟩ : ∃ n1, n1 = next + 1 := ⟨_, rfl⟩
                    have hd2 : decide ((n1 : Int) < (s.size : Int)) = false := decide_eq_false (by omega)
                    have hd3 : decide (n1 < s.size) = false := decide_eq_false (by omega)
                    replace hn1 := Lib.hid hn1
                    replace hse' := Lib.hid hse'
                    go_wp2_with fail
                    refine cl.out.mono ?_
                    rintro e w3 ⟨rfl, h4, h5, h6⟩
                    unfold labelV
                    have ho3 := own_only ho h6 hgB
                    have hg3 := only_trans hg h6
                    have hsz3 : wr.heap.size ≤ w3.heap.size := h6.size
                    have hnw : ∀ j u, [Value.string x.1, Value.string x.2][j]? = some u → ((w3.alloc (.cells #[.string x.1, .string x.2] 45)).alloc (.cells #[.string x.1, .string x.2] 45)).cell? ((⟨w3.heap.size + 1, 0, none⟩ : Addr).add j) = some u := by
                      have h := World.news_of_block (cs := #[Value.string x.1, Value.string x.2]) (heap_alloc_new (w3.alloc (.cells #[.string x.1, .string x.2] 45)) (.cells #[.string x.1, .string x.2] 45))
                      rw [World.size_alloc] at h
                      exact h
                    replace hnw := Lib.hid hnw
                    replace hg3 := Lib.hid hg3
                    clear h6
                    go_wp2_with (at_builtin; refine wpList_append_lies _ rfl _ _ _ rfl w.heap.size 45 i0 _ 2 32 Tryz.underlying24 hinf hz0 hz1 hz2 rfl (by decide) _ acc.length (labs acc) (by rfl) ((ho3.alloc _).alloc _) ⟨w3.heap.size + 1, 0, none⟩ 1 1 [.string x.1, .string x.2] (by rfl) (by rfl) hnw.out (one2 x) (by omega) (by unfold maxLen; omega) (by omega) (by simp; omega) _ rfl ?_; intro gg cap w4 ho4 hgrow hat hlt4)
                    have hb4 : Below w.heap.size w3 w4 := by
                      refine ((Below.refl w.heap.size w3).trans ?_).grown hgrow (by simp; omega) hup
                      repeat (first | exact Below.refl _ _ | refine Below.alloc ?_ (by first | omega | (simp; omega)) _)
                    have hsz4 : w3.heap.size ≤ w4.heap.size := Nat.le_trans (by simp only [World.size_alloc]; omega) hgrow.size
                    have hr4 := h4.staysB hb4 hgB hsz4
                    have hg4 := only_below hg3.out hb4 hsz4
                    rw [show labs acc ++ [Value.string x.1, Value.string x.2] = labs (acc ++ [x]) from (labs_snoc acc x).symm] at ho4
                    obtain ⟨_, d0, d1, d2, d3, d4, d5, d6⟩ := id hr4
                    clear hb4 hgrow hat
                    replace hr4 := Lib.hid hr4
                    replace hg4 := Lib.hid hg4
                    replace ho4 := Lib.hid ho4
                    go_wp2
                    go_quiet (fail)
                    go_wp2_with fail
                    rw [e125.out]
                    refine (must_yes (hr4.out.drewN _) 125 hlt hk2.out hs).mono ?_
                    rintro e w5 ⟨rfl, h6, h7⟩
                    rw [← hn1.out] at h6
                    have ho5 := own_only ho4.out (only_trans (only_drewN (only_refl w4 _) _) h7) hgB
                    have hg5 := only_trans (only_drewN hg4.out _) h7
                    clear h7
                    obtain ⟨_, f0, f1, f2, f3, f4, f5, f6⟩ := id h6
                    replace h6 := Lib.hid h6
                    replace ho5 := Lib.hid ho5
                    replace hg5 := Lib.hid hg5
                    go_wp2
                    go_quiet (fail)
                    go_wp2
                    refine bodyPost_ret (results_tmp3 rfl _ _ _) rfl ?_
                    rw [← hse'.out]
                    refine ⟨some ⟨gg, 0, none⟩, cap, by rw [List.length_append]; rfl, ?_, only_drewN hg5.out _⟩
                    rw [List.length_append]
                    exact ho5.out
                · rw [if_pos (fun ⟨_, h⟩ => hk2 h)] at hse'
                  replace hk2 : ∀ h : next < s.size, s[next] ≠ 125 := fun _ => hk2
                  replace hk2 := Lib.hid hk2
                  replace hse' := Lib.hid hse'
                  go_wp2_with fail
                  refine cl.out.mono ?_
                  rintro e w3 ⟨rfl, h4, h5, h6⟩
                  unfold labelV
                  have ho3 := own_only ho h6 hgB
                  have hg3 := only_trans hg h6
                  have hsz3 : wr.heap.size ≤ w3.heap.size := h6.size
                  have hnw : ∀ j u, [Value.string x.1, Value.string x.2][j]? = some u → ((w3.alloc (.cells #[.string x.1, .string x.2] 45)).alloc (.cells #[.string x.1, .string x.2] 45)).cell? ((⟨w3.heap.size + 1, 0, none⟩ : Addr).add j) = some u := by
                    have h := World.news_of_block (cs := #[Value.string x.1, Value.string x.2]) (heap_alloc_new (w3.alloc (.cells #[.string x.1, .string x.2] 45)) (.cells #[.string x.1, .string x.2] 45))
                    rw [World.size_alloc] at h
                    exact h
                  replace hnw := Lib.hid hnw
                  replace hg3 := Lib.hid hg3
                  clear h6
                  go_wp2_with (at_builtin; refine wpList_append_lies _ rfl _ _ _ rfl w.heap.size 45 i0 _ 2 32 Tryz.underlying24 hinf hz0 hz1 hz2 rfl (by decide) _ acc.length (labs acc) (by rfl) ((ho3.alloc _).alloc _) ⟨w3.heap.size + 1, 0, none⟩ 1 1 [.string x.1, .string x.2] (by rfl) (by rfl) hnw.out (one2 x) (by omega) (by unfold maxLen; omega) (by omega) (by simp; omega) _ rfl ?_; intro gg cap w4 ho4 hgrow hat hlt4)
                  have hb4 : Below w.heap.size w3 w4 := by
                    refine ((Below.refl w.heap.size w3).trans ?_).grown hgrow (by simp; omega) hup
                    repeat (first | exact Below.refl _ _ | refine Below.alloc ?_ (by first | omega | (simp; omega)) _)
                  have hsz4 : w3.heap.size ≤ w4.heap.size := Nat.le_trans (by simp only [World.size_alloc]; omega) hgrow.size
                  have hr4 := h4.staysB hb4 hgB hsz4
                  have hg4 := only_below hg3.out hb4 hsz4
                  rw [show labs acc ++ [Value.string x.1, Value.string x.2] = labs (acc ++ [x]) from (labs_snoc acc x).symm] at ho4
                  obtain ⟨_, d0, d1, d2, d3, d4, d5, d6⟩ := id hr4
                  clear hb4 hgrow hat
                  replace hr4 := Lib.hid hr4
                  replace hg4 := Lib.hid hg4
                  replace ho4 := Lib.hid ho4
                  go_wp2
                  go_quiet (fail)
                  go_wp2_with fail
                  rw [e125.out]
                  refine (must_no (hr4.out.drewN _) 125 h5 hk2.out hs).mono ?_
                  rintro e w5 ⟨rfl, h6, h7⟩
                  go_wp2
                  refine bodyPost_ret (results_tmp3 rfl _ _ _) rfl ?_
                  rw [← hse'.out]
                  exact ⟨rfl, ⟨_, h6⟩, only_trans (only_drewN hg4.out _) h7⟩
            · have hd : decide ((next : Int) < (s.size : Int)) = false := decide_eq_false (by omega)
              have hd3 : decide (next < s.size) = false := decide_eq_false hlt
              have hk2 : ∀ h : next < s.size, s[next] ≠ 125 := fun h => absurd h hlt
              rw [if_neg (fun ⟨h, _⟩ => hlt h), if_pos (fun ⟨h, _⟩ => hlt h)] at hse'
              replace hk2 := Lib.hid hk2
              replace hse' := Lib.hid hse'
              go_wp2_with fail
              refine cl.out.mono ?_
              rintro e w3 ⟨rfl, h4, h5, h6⟩
              unfold labelV
              have ho3 := own_only ho h6 hgB
              have hg3 := only_trans hg h6
              have hsz3 : wr.heap.size ≤ w3.heap.size := h6.size
              have hnw : ∀ j u, [Value.string x.1, Value.string x.2][j]? = some u → ((w3.alloc (.cells #[.string x.1, .string x.2] 45)).alloc (.cells #[.string x.1, .string x.2] 45)).cell? ((⟨w3.heap.size + 1, 0, none⟩ : Addr).add j) = some u := by
                have h := World.news_of_block (cs := #[Value.string x.1, Value.string x.2]) (heap_alloc_new (w3.alloc (.cells #[.string x.1, .string x.2] 45)) (.cells #[.string x.1, .string x.2] 45))
                rw [World.size_alloc] at h
                exact h
              replace hnw := Lib.hid hnw
              replace hg3 := Lib.hid hg3
              clear h6
              go_wp2_with (at_builtin; refine wpList_append_lies _ rfl _ _ _ rfl w.heap.size 45 i0 _ 2 32 Tryz.underlying24 hinf hz0 hz1 hz2 rfl (by decide) _ acc.length (labs acc) (by rfl) ((ho3.alloc _).alloc _) ⟨w3.heap.size + 1, 0, none⟩ 1 1 [.string x.1, .string x.2] (by rfl) (by rfl) hnw.out (one2 x) (by omega) (by unfold maxLen; omega) (by omega) (by simp; omega) _ rfl ?_; intro gg cap w4 ho4 hgrow hat hlt4)
              have hb4 : Below w.heap.size w3 w4 := by
                refine ((Below.refl w.heap.size w3).trans ?_).grown hgrow (by simp; omega) hup
                repeat (first | exact Below.refl _ _ | refine Below.alloc ?_ (by first | omega | (simp; omega)) _)
              have hsz4 : w3.heap.size ≤ w4.heap.size := Nat.le_trans (by simp only [World.size_alloc]; omega) hgrow.size
              have hr4 := h4.staysB hb4 hgB hsz4
              have hg4 := only_below hg3.out hb4 hsz4
              rw [show labs acc ++ [Value.string x.1, Value.string x.2] = labs (acc ++ [x]) from (labs_snoc acc x).symm] at ho4
              obtain ⟨_, d0, d1, d2, d3, d4, d5, d6⟩ := id hr4
              clear hb4 hgrow hat
              replace hr4 := Lib.hid hr4
              replace hg4 := Lib.hid hg4
              replace ho4 := Lib.hid ho4
              go_wp2
              go_quiet (fail)
              go_wp2_with fail
              rw [e125.out]
              refine (must_no (hr4.out.drewN _) 125 h5 hk2.out hs).mono ?_
              rintro e w5 ⟨rfl, h6, h7⟩
              go_wp2
              refine bodyPost_ret (results_tmp3 rfl _ _ _) rfl ?_
              rw [← hse'.out]
              exact ⟨rfl, ⟨_, h6⟩, only_trans (only_drewN hg4.out _) h7⟩

end Go.Proofs.YtgjcdhcbniholaaGreat.La
