/- Lemmas for the laws of this seat, laid together of So, Sf, Sg. -/
import Derived.Test.YtpiegngjpnpohaaGreatK04
import Derived.Test.YtpiegngjpnpohaaGreatK17
import Derived.Test.YtpiegngjpnpohaaGreatK22
import Derived.Test.YtpiegngjpnpohaaGreatK27
import Derived.Test.YtpiegngjpnpohaaGreatK30

namespace Go.Proofs.YtpiegngjpnpohaaGreat.So
open Go.RowKit Go.ChangeShapes Go.WideShapes Go.Deep Go.Proofs.YtpiegngjpnpohaaGreat.La Go.Proofs.YtpiegngjpnpohaaGreat.Sl Go.Proofs.YtpiegngjpnpohaaGreat.Rk Go.Proofs.YtpiegngjpnpohaaGreat.Wi Go.Proofs.YtpiegngjpnpohaaGreat.Fb Go.Proofs.YtpiegngjpnpohaaGreat.Sn
set_option linter.unusedVariables false
set_option maxRecDepth 100000
section
variable {H : Type} {enc : TypeId × Value → H} {W : World} {base : Nat} {spare : Nat → Bool} {held : Bool}
theorem trod_f64 {P : Program} {fuel : Nat} {t : TypeId} {cs : List Value} {x : DataW H × List MemPlace} (ht : P.underlying t = some (.float .f64)) (h : DataW.trod enc P W base spare held fuel t cs = some x) :
    ∃ b, cs = [.float .f64 b] ∧ x = (.lit (.float .f64 b), []) ∧ (Lit.float .f64 b).wf = true := by
  cases fuel with
  | zero => simp [DataW.trod] at h
  | succ n =>
    unfold DataW.trod at h
    rw [ht] at h
    split at h <;> simp_all
theorem okF_wf {b : Nat} (h : (Lit.float .f64 b).wf = true) : okF b := by
  have := of_decide_eq_true (show decide (b < 2 ^ 64) = true from h)
  unfold okF
  omega
theorem all_mem {P : Program} {e : TypeId} : ∀ {l : List (DataW H)} {d : DataW H}, d ∈ l → ∀ n ∈ d.weights P e, n ∈ DataW.weightsAll P e l
  | x :: l, d, hd, n, hn => by
    rw [DataW.weightsAll, List.mem_append]
    rcases List.mem_cons.1 hd with rfl | hd
    · exact .inl hn
    · exact .inr (all_mem hd n hn)
theorem one_i128 {m : Nat} {cs : List Value} {y : DataW H × List MemPlace} (h : DataW.trod enc Tryz.prog W base spare held m 45 cs = some y) :
    ∃ t : Int, cs = [.int .i64 (hiI t), .int .u64 (loI t)] ∧ In t := by
  obtain ⟨y0, y1, n, hy, hl, h0, h1⟩ := trod_struct2 Tryz.underlying45 h
  have hl2 : cs.length = 2 := hl.trans (by kernel_rfl)
  match cs, hl2 with
  | [c0, c1], _ =>
    obtain ⟨a, e0, z0, b0⟩ := DataW.trod_int (k := .i64) (by kernel_rfl) (show DataW.trod enc Tryz.prog W base spare held n _ [c0] = some y0 from h0)
    obtain ⟨b, e1, z1, b1⟩ := DataW.trod_int (k := .u64) (by kernel_rfl) (show DataW.trod enc Tryz.prog W base spare held n _ [c1] = some y1 from h1)
    obtain rfl : c0 = .int .i64 a := by simpa using e0
    obtain rfl : c1 = .int .u64 b := by simpa using e1
    have q0 := bounds_i64 b0
    have q1 := bounds_u64 b1
    have hi : hiI (a * 18446744073709551616 + b) = a := by unfold hiI; omega
    have lo : loI (a * 18446744073709551616 + b) = b := by unfold loI; omega
    exact ⟨a * 18446744073709551616 + b, by rw [hi, lo], by unfold In; omega⟩
structure DSz (d : DD) : Prop where
  name : d.name.size ≤ reachBytes
  help : d.help.size ≤ reachBytes
  l : d.l.length * 32 ≤ reachBytes
  texts : ∀ y ∈ d.l, y.1.size ≤ reachBytes ∧ y.2.size ≤ reachBytes
theorem one_desc {m : Nat} {cs : List Value} {y : DataW H × List MemPlace} (h : DataW.trod enc Tryz.prog W base spare held m 43 cs = some y) (hw : ∀ n ∈ y.1.weights Tryz.prog 43, n ≤ reachBytes) :
    ∃ d : DD, cs = [.int .i64 d.kind, .string d.name, .string d.help, .slice d.A d.l.length d.c] ∧ DAt d W W.heap.size ∧ DSz d := by
  obtain ⟨y0, y1, y2, y3, n, hy, hl, h0, h1, h2, h3⟩ := Joins.trod_struct4 Tryz.underlying43 h
  have hl2 : cs.length = 4 := hl.trans (by kernel_rfl)
  match cs, hl2 with
  | [c0, c1, c2, c3], _ =>
    obtain ⟨k, e0, _, b0⟩ := DataW.trod_int (k := .i64) (by kernel_rfl) (show DataW.trod enc Tryz.prog W base spare held n _ [c0] = some y0 from h0)
    obtain rfl : c0 = .int .i64 k := by simpa using e0
    obtain ⟨s1, rfl, z1, f1⟩ := str_sizes (by kernel_rfl) (show DataW.trod enc Tryz.prog W base spare held n _ [c1] = some y1 from h1)
    obtain ⟨s2, rfl, z2, f2⟩ := str_sizes (by kernel_rfl) (show DataW.trod enc Tryz.prog W base spare held n _ [c2] = some y2 from h2)
    obtain ⟨A, cap, l, rfl, hr, hl, hm, hz, hd3⟩ := labs_open (show DataW.trod enc Tryz.prog W base spare held n _ [c3] = some y3 from h3)
    have hM : maxLen ≤ 9223372036854775807 := by decide
    have hB : reachBytes ≤ 140737488355328 := by decide
    have hu : Tryz.prog.underlying 43 = some (.struct _) := Tryz.underlying43
    rw [hy, DataW.weights, hu] at hw
    simp only [List.map_cons, List.map_nil] at hw
    have w1 := hw s1.data.toList.length (DataW.weights_mem_each (j := 1) (d := y1.1) rfl rfl _ (by rw [f1]; simp [DataW.weights]))
    have w2 := hw s2.data.toList.length (DataW.weights_mem_each (j := 2) (d := y2.1) rfl rfl _ (by rw [f2]; simp [DataW.weights]))
    obtain ⟨q1, q2⟩ := labs_sized hd3 (fun n hn => hw n (DataW.weights_mem_each (j := 3) (d := y3.1) rfl rfl n hn))
    have q0 := bounds_i64 b0
    exact ⟨⟨k, s1, s2, A, cap, l⟩, rfl, ⟨hr, hl, Nat.le_trans hm hM, (by show l.length ≤ _; omega), Nat.le_trans z1 hM, Nat.le_trans z2 hM, fun x hx => ⟨Nat.le_trans (hz x hx).1 hM, Nat.le_trans (hz x hx).2 hM⟩, q0⟩, ⟨by simpa using w1, by simpa using w2, q1, q2⟩⟩
theorem cnts_sized {d : DataW H} {l : List Cnt} (hd : (d = .nil ∧ l = []) ∨ ∃ rest, d = .slice (l.map Ao.cntD) rest) (hw : ∀ n ∈ d.weights Tryz.prog 46, n ≤ reachBytes) : l.length * 16 ≤ reachBytes := by
  rcases hd with ⟨_, rfl⟩ | ⟨rest, rfl⟩
  · simp
  · have hu : Tryz.prog.underlying 46 = some (.slice 54) := Tryz.underlying46
    rw [DataW.weights, hu] at hw
    have hB : Tryz.prog.bytesOf 54 = 16 := by kernel_rfl
    simp only [hB] at hw
    have := hw _ (List.mem_cons_self ..)
    simp only [List.length_map] at this
    have h2 := Nat.mul_le_mul_right 16 (Nat.le_add_right l.length rest.length)
    omega
structure VSz (v : Vv) : Prop where
  d : DSz v.d
  cs : v.cs.length * 16 ≤ reachBytes
theorem one_val {m : Nat} {cs : List Value} {y : DataW H × List MemPlace} (h : DataW.trod enc Tryz.prog W base spare held m 49 cs = some y) (hw : ∀ n ∈ y.1.weights Tryz.prog 49, n ≤ reachBytes) :
    ∃ v : Vv, cs = v.row ∧ VAt v W W.heap.size ∧ VSz v := by
  obtain ⟨xs, n, _, hy, hl, hlen, hf⟩ := DataW.trod_struct Tryz.underlying49 h
  have hl2 : cs.length = 11 := hl.trans (by kernel_rfl)
  have hlen2 : xs.length = 7 := hlen
  match cs, hl2, xs, hlen2 with
  | [c0, c1, c2, c3, c4, c5, c6, c7, c8, c9, c10], _, [x0, x1, x2, x3, x4, x5, x6], _ =>
    have hu : Tryz.prog.underlying 49 = some (.struct _) := Tryz.underlying49
    rw [hy, DataW.weights, hu] at hw
    simp only [List.map_cons, List.map_nil] at hw
    obtain ⟨d, ed, hd, zd⟩ := one_desc (show DataW.trod enc Tryz.prog W base spare held n _ [c0, c1, c2, c3] = some x0 from hf 0 _ rfl) (fun k hk => hw k (DataW.weights_mem_each (j := 0) (d := x0.1) rfl rfl k hk))
    obtain ⟨t, et, ht⟩ := one_i128 (show DataW.trod enc Tryz.prog W base spare held n _ [c4, c5] = some x1 from hf 1 _ rfl)
    obtain ⟨CA, cc, l, e6, hcs, hcl, hcm, d6⟩ := Ao.cnts_open (show DataW.trod enc Tryz.prog W base spare held n _ [c6] = some x2 from hf 2 _ rfl)
    obtain ⟨nn, e7, _, b7⟩ := DataW.trod_int (k := .u64) (by kernel_rfl) (show DataW.trod enc Tryz.prog W base spare held n _ [c7] = some x3 from hf 3 _ rfl)
    obtain ⟨f8, e8, _, b8⟩ := trod_f64 (by kernel_rfl) (show DataW.trod enc Tryz.prog W base spare held n _ [c8] = some x4 from hf 4 _ rfl)
    obtain ⟨f9, e9, _, b9⟩ := trod_f64 (by kernel_rfl) (show DataW.trod enc Tryz.prog W base spare held n _ [c9] = some x5 from hf 5 _ rfl)
    obtain ⟨fa, ea, _, ba⟩ := trod_f64 (by kernel_rfl) (show DataW.trod enc Tryz.prog W base spare held n _ [c10] = some x6 from hf 6 _ rfl)
    have z6 := cnts_sized d6 (fun k hk => hw k (DataW.weights_mem_each (j := 2) (d := x2.1) rfl rfl k hk))
    simp only [List.cons.injEq, and_true] at ed et e7 e8 e9 ea
    obtain ⟨rfl, rfl, rfl, rfl⟩ := ed
    obtain ⟨rfl, rfl⟩ := et
    subst e6 e7 e8 e9 ea
    have q7 := bounds_u64 b7
    have hM : maxLen ≤ 9223372036854775807 := by decide
    exact ⟨⟨d, t, CA, cc, l, nn, f8, f9, fa⟩, rfl, ⟨hd, hcs, hcl, Nat.le_trans hcm hM, ht, q7, okF_wf b8, okF_wf b9, okF_wf ba⟩, ⟨zd, z6⟩⟩
theorem vals_open {m : Nat} {c : Value} {y : DataW H × List MemPlace} (h : DataW.trod enc Tryz.prog W base spare held m 22 [c] = some y) (hw : ∀ n ∈ y.1.weights Tryz.prog 22, n ≤ reachBytes) :
    ∃ (A : Option Addr) (cap : Nat) (vs : List Vv), c = .slice A vs.length cap ∧ VsAt vs A W W.heap.size ∧ vs.length ≤ cap ∧ cap ≤ maxLen ∧ vs.length * 136 ≤ reachBytes ∧ ∀ v ∈ vs, VSz v := by
  rcases DataW.trod_slice Tryz.underlying22 h with ⟨hc, hy⟩ | ⟨a, len, cap, elems, rest, n, _, hc, hy, hb, hl, hm, hlen, hel, _, _⟩
  · obtain rfl : c = .slice none 0 0 := by simpa using hc
    exact ⟨none, 0, [], rfl, ⟨⟨rfl, fun h => absurd h (by simp)⟩, fun x hx => by simp at hx⟩, Nat.le_refl _, by decide, by simp, fun x hx => by simp at hx⟩
  · obtain rfl : c = .slice (some a) len cap := by simpa using hc
    have hC : Tryz.prog.cellsOf 49 = 11 := by kernel_rfl
    have hBy : Tryz.prog.bytesOf 49 = 136 := by kernel_rfl
    have hu : Tryz.prog.underlying 22 = some (.slice 49) := Tryz.underlying22
    rw [hC] at hel
    rw [hy, DataW.weights, hu] at hw
    simp only [hBy] at hw
    have hsz := hw _ (List.mem_cons_self ..)
    have key : ∀ i, i < len → ∃ v : Vv, (∀ j u, v.row[j]? = some u → W.cell? ((a.add (i * 11)).add j) = some u) ∧ VAt v W W.heap.size ∧ VSz v := by
      intro i hi
      have he := hel i hi
      rw [List.getElem?_eq_getElem (by omega)] at he
      simp only [Option.bind_eq_some_iff] at he
      obtain ⟨cs, hcs, ht⟩ := he
      have hmem : (elems[i]'(by omega)).1 ∈ elems.map (·.1) := List.mem_map_of_mem (List.getElem_mem ..)
      obtain ⟨v, rfl, hv, hz⟩ := one_val ht (fun k hk => hw k (List.mem_cons_of_mem _ (List.mem_append_left _ (all_mem hmem k hk))))
      have hcc := (World.cells?_some hcs).2.2
      refine ⟨v, fun j u hu => ?_, hv, hz⟩
      have hj : j < 11 := by
        rcases Nat.lt_or_ge j 11 with g | g
        · exact g
        · rw [List.getElem?_eq_none (by simpa [Vv.row] using g)] at hu; cases hu
      exact (hcc j hj).trans hu
    obtain ⟨vs, hll, hp⟩ := Ao.pick_all len key
    refine ⟨some a, cap, vs, by rw [hll], ⟨⟨rows_len vs, fun hn => ?_⟩, fun x hx => ?_⟩, by omega, hm, ?_, fun x hx => ?_⟩
    · have h0 := (hp 0 hn).1 0 _ rfl
      have ha : (a.add (0 * 11)).add 0 = a := by simp [Addr.add]
      rw [ha] at h0
      have hsp := World.cell?_spot h0
      have hlt := World.block_lt_of_cell? W _ h0
      obtain ⟨ab, ao, at0⟩ := a
      simp only at hsp hlt
      subst hsp
      refine ⟨ab, ao, rfl, hlt, fun j u hu => ?_⟩
      have hj : j < (rows vs).length := by
        rcases Nat.lt_or_ge j (rows vs).length with hj | hj
        · exact hj
        · rw [List.getElem?_eq_none hj] at hu; cases hu
      rw [rows_len] at hj
      have hq : j / 11 < vs.length := by omega
      have hg := rows_get vs (j / 11) (j % 11) hq (by omega)
      have hj2 : j / 11 * 11 + j % 11 = j := by omega
      rw [hj2, hu] at hg
      have hwc := (hp (j / 11) hq).1 (j % 11) u hg.symm
      rw [Ao.add_plain, Ao.add_plain, Nat.add_assoc, hj2] at hwc
      exact hwc
    · obtain ⟨i, hi, rfl⟩ := List.mem_iff_getElem.1 hx
      exact (hp i hi).2.1
    · simp only [List.length_map] at hsz
      have := Nat.mul_le_mul_right 136 (Nat.le_add_right elems.length rest.length)
      rw [hll, ← hlen]
      omega
    · obtain ⟨i, hi, rfl⟩ := List.mem_iff_getElem.1 hx
      exact (hp i hi).2.2
def srow (s : Ss) : List Value := [.int .i64 s.p, .slice s.A s.vs.length s.c, .int .u64 s.r]
structure SSz (s : Ss) : Prop where
  n : s.vs.length * 136 ≤ reachBytes
  all : ∀ v ∈ s.vs, VSz v
theorem one_snap {m : Nat} {cs : List Value} {y : DataW H × List MemPlace} (h : DataW.trod enc Tryz.prog W base spare held m 25 cs = some y) (hw : ∀ n ∈ y.1.weights Tryz.prog 25, n ≤ reachBytes) :
    ∃ s : Ss, cs = srow s ∧ SAt s W W.heap.size ∧ SSz s := by
  obtain ⟨xs, n, _, hy, hl, hlen, hf⟩ := DataW.trod_struct Tryz.underlying25 h
  have hl2 : cs.length = 3 := hl.trans (by kernel_rfl)
  have hlen2 : xs.length = 3 := hlen
  match cs, hl2, xs, hlen2 with
  | [c0, c1, c2], _, [x0, x1, x2], _ =>
    have hu : Tryz.prog.underlying 25 = some (.struct _) := Tryz.underlying25
    rw [hy, DataW.weights, hu] at hw
    simp only [List.map_cons, List.map_nil] at hw
    obtain ⟨p, e0, _, b0⟩ := DataW.trod_int (k := .i64) (by kernel_rfl) (show DataW.trod enc Tryz.prog W base spare held n _ [c0] = some x0 from hf 0 _ rfl)
    obtain ⟨A, c, vs, e1, hv, hvc, hcm, hz, hd⟩ := vals_open (show DataW.trod enc Tryz.prog W base spare held n _ [c1] = some x1 from hf 1 _ rfl) (fun k hk => hw k (DataW.weights_mem_each (j := 1) (d := x1.1) rfl rfl k hk))
    obtain ⟨r, e2, _, b2⟩ := DataW.trod_int (k := .u64) (by kernel_rfl) (show DataW.trod enc Tryz.prog W base spare held n _ [c2] = some x2 from hf 2 _ rfl)
    simp only [List.cons.injEq, and_true] at e0 e2
    subst e0 e1 e2
    have q0 := bounds_i64 b0
    have q2 := bounds_u64 b2
    have hM : maxLen ≤ 9223372036854775807 := by decide
    have hB : reachBytes ≤ 140737488355328 := by decide
    exact ⟨⟨p, A, c, vs, r⟩, rfl, ⟨hv, q0, hvc, Nat.le_trans hcm hM, (by show vs.length ≤ _; omega), q2⟩, ⟨hz, hd⟩⟩
theorem snap_open {b0 : Nat} {r : Reach} {v : Value} {d : DataW H} {p : List MemPlace} (hv : Value.okWide Tryz.prog W r b0 25 v) (h : DataW.Trod enc Tryz.prog W base spare held 25 v d p)
    (hw : ∀ n ∈ d.weights Tryz.prog 25, n ≤ reachBytes) : ∃ s : Ss, v = s.v ∧ SAt s W W.heap.size ∧ SSz s := by
  obtain ⟨⟨cs⟩, rfl, hsz⟩ := okWide_struct Tryz.underlying25 hv
  obtain ⟨fuel, hf⟩ := h
  obtain ⟨s, hs, h1, h2⟩ := one_snap (show DataW.trod enc Tryz.prog W base spare held fuel _ cs = some (d, p) from hf) hw
  subst hs
  exact ⟨s, rfl, h1, h2⟩
end
end Go.Proofs.YtpiegngjpnpohaaGreat.So

namespace Go.Proofs.YtpiegngjpnpohaaGreat.So
open Go.RowKit Go.Proofs.YtpiegngjpnpohaaGreat.La Go.Proofs.YtpiegngjpnpohaaGreat.Sl Go.Proofs.YtpiegngjpnpohaaGreat.Ck Go.Proofs.YtpiegngjpnpohaaGreat.Rc Go.Proofs.YtpiegngjpnpohaaGreat.Rk Go.Proofs.YtpiegngjpnpohaaGreat.Wi Go.Proofs.YtpiegngjpnpohaaGreat.Fb Go.Proofs.YtpiegngjpnpohaaGreat.Mg Go.Proofs.YtpiegngjpnpohaaGreat.Sn
set_option linter.unusedVariables false
def bulkV (v : Vv) : Nat := 1 + v.cs.length + v.d.l.length
def bulk (vs : List Vv) : Nat := (vs.map bulkV).sum
def bulks (ss : List Ss) : Nat := (ss.map fun s => bulk s.vs).sum
theorem bulk_succ {vs : List Vv} {k : Nat} (h : k < vs.length) : bulk (vs.take (k + 1)) = bulk (vs.take k) + bulkV vs[k] := by
  unfold bulk
  rw [List.take_succ_eq_append_getElem h, List.map_append, List.sum_append]
  rfl
theorem bulks_succ {ss : List Ss} {i : Nat} (h : i < ss.length) : bulks (ss.take (i + 1)) = bulks (ss.take i) + bulk ss[i].vs := by
  unfold bulks
  rw [List.take_succ_eq_append_getElem h, List.map_append, List.sum_append]
  rfl
theorem reach_num : reachBytes ≤ 140737488355328 := by decide
theorem few_num (L : Int) (nc nl : Nat) (h1 : nc * 16 ≤ 140737488355328) (h2 : nl * 32 ≤ 140737488355328) (hL : 0 ≤ L) (hL1 : L ≤ 1048576) :
    (0 : Int) ≤ (nc : Int) ∧ (nc : Int) ≤ 8796093022208 ∧ (0 : Int) ≤ (nl : Int) ∧ (nl : Int) ≤ 4398046511104 ∧ wrap64 (1 + (nc : Int)) = 1 + (nc : Int) ∧ wrap64 (1 + (nc : Int) + (nl : Int)) = 1 + (nc : Int) + (nl : Int) ∧
      wrap64 (L - (1 + (nc : Int) + (nl : Int))) = L - (1 + (nc : Int) + (nl : Int)) ∧ -281474976710656 ≤ L - (1 + (nc : Int) + (nl : Int)) ∧ L - (1 + (nc : Int) + (nl : Int)) ≤ 1048576 := by
  have a1 : (nc : Int) ≤ 8796093022208 := by omega
  have a2 : (nl : Int) ≤ 4398046511104 := by omega
  have b1 : (0 : Int) ≤ (nc : Int) := by omega
  have b2 : (0 : Int) ≤ (nl : Int) := by omega
  clear h1 h2
  generalize (nc : Int) = x at *
  generalize (nl : Int) = y at *
  refine ⟨b1, a1, b2, a2, ?_, ?_, ?_, ?_, ?_⟩
  · unfold wrap64; omega
  · unfold wrap64; omega
  · unfold wrap64; omega
  · omega
  · omega
theorem few_new {L : Int} {B0 Bk Bk1 nc nl : Nat} (h : L = 1048576 - (B0 : Int) - (Bk : Int)) (hb : Bk1 = Bk + (1 + nc + nl)) : L - (1 + (nc : Int) + (nl : Int)) = 1048576 - (B0 : Int) - (Bk1 : Int) := by
  subst hb
  omega
theorem bulk_mem : ∀ {vs : List Vv} {v : Vv}, v ∈ vs → bulkV v ≤ bulk vs
  | u :: vs, v, h => by
    simp only [bulk, List.map_cons, List.sum_cons]
    rcases List.mem_cons.1 h with rfl | h
    · omega
    · have := bulk_mem h
      simp only [bulk] at this
      omega
theorem bulks_mem : ∀ {ss : List Ss} {s : Ss}, s ∈ ss → bulk s.vs ≤ bulks ss
  | u :: ss, s, h => by
    simp only [bulks, List.map_cons, List.sum_cons]
    rcases List.mem_cons.1 h with rfl | h
    · omega
    · have := bulks_mem h
      simp only [bulks] at this
      omega
structure SsAt (ss : List Ss) (A : Option Addr) (w : World) (B : Nat) : Prop where
  c1 : ∀ i (h : i < ss.length), ∃ b off, A = some ⟨b, off, none⟩ ∧ b < B ∧ w.cell? ⟨b, off + i * 3 + 1, none⟩ = some (.slice ss[i].A ss[i].vs.length ss[i].c)
  all : ∀ s ∈ ss, SAt s w B ∧ SSz s
theorem SsAt.below {ss : List Ss} {A : Option Addr} {w w' : World} {B : Nat} (h : SsAt ss A w B) (k : Below B w w') : SsAt ss A w' B :=
  ⟨fun i hi => by obtain ⟨b, off, e, hb, hc⟩ := h.c1 i hi; exact ⟨b, off, e, hb, kc k hb hc⟩, fun s hs => ⟨(h.all s hs).1.below k, (h.all s hs).2⟩⟩
set_option maxRecDepth 100000 in
set_option maxHeartbeats 2000000 in
theorem few_any (ss : List Ss) (A : Option Addr) (c : Nat) (w : World) (h : SsAt ss A w w.heap.size) (hl : ss.length ≤ 3) :
    Calls Tryz.prog 18 #[.slice A ss.length c] w fun e w' => ∃ b, e = .returned (.bool b) ∧ (b = true → bulks ss ≤ 1048576) ∧ Below w.heap.size w w' := by
  obtain ⟨n, hn⟩ : ∃ n, n = ss.length := ⟨_, rfl⟩
  rw [← hn] at hl ⊢
  replace hn := Lib.hid hn
  replace h := Lib.hid h
  go_enter Tryz.func18, Tryz.ntmps18
  go_wp2
  go_loopw [3, 4] (fun a v wr => ∃ (i : Nat) (L : Int), a = .int .i64 L ∧ v = .int .i64 (i : Int) ∧ i ≤ n ∧ -281474976710656 ≤ L ∧ L ≤ 1048576 ∧ Hid (0 ≤ L → L = 1048576 - (bulks (ss.take i) : Int)) ∧ Below w.heap.size w wr) (fun _ v _ => n - (intOf v).toNat)
  case atStart => exact ⟨0, 1048576, rfl, rfl, Nat.zero_le _, by omega, by omega, Lib.hid (fun _ => by rw [List.take_zero]; rfl), Below.refl _ _⟩
  case round =>
    obtain ⟨i, L, rfl, rfl, hi, hL0, hL1, hL, hw⟩ := hrel
    by_cases hlt : i < n
    · have hil : i < ss.length := by rw [← hn.out]; exact hlt
      have gI : (i : Int) < (n : Int) := by omega
      have gI0 : (0 : Int) ≤ (i : Int) := by omega
      obtain ⟨s, hs⟩ : ∃ s, s = ss[i] := ⟨_, rfl⟩
      obtain ⟨m, hm⟩ : ∃ m, m = s.vs.length := ⟨_, rfl⟩
      have hall := (h.out.below hw).all s (by rw [hs]; exact List.getElem_mem hil)
      have hmI : (m : Int) ≤ 140737488355328 := by have := hall.1.len2; omega
      replace hs := Lib.hid hs
      replace hm := Lib.hid hm
      replace hall := Lib.hid hall
      go_wp2
      go_loopw [3, 5] (fun a v wk => ∃ (k : Nat) (L : Int), a = .int .i64 L ∧ v = .int .i64 (k : Int) ∧ k ≤ m ∧ -281474976710656 ≤ L ∧ L ≤ 1048576 ∧ Hid (0 ≤ L → L = 1048576 - (bulks (ss.take i) : Int) - (bulk (s.vs.take k) : Int)) ∧ Below w.heap.size w wk) (fun _ v _ => m - (intOf v).toNat)
      case atStart => exact ⟨0, L, rfl, rfl, Nat.zero_le _, hL0, hL1, Lib.hid (fun h0 => by rw [List.take_zero, hL.out h0]; simp [bulk]), hw⟩
      case round =>
        clear hL hL0 hL1
        obtain ⟨k, L, rfl, rfl, hk, hL0, hL1, hL, hwk⟩ := hrel
        have hszk := hwk.size
        obtain ⟨b, off, hA, hbB, x1⟩ := (h.out.below hwk).c1 i hil
        have hbw : b < wr.heap.size := by omega
        rw [← hs.out, ← hm.out] at x1
        subst hA
        by_cases hlt2 : k < m
        · have hkl : k < s.vs.length := by rw [← hm.out]; exact hlt2
          have gK : (k : Int) < (m : Int) := by omega
          have gK0 : (0 : Int) ≤ (k : Int) := by omega
          by_cases hneg : 0 ≤ L
          · have hav := (h.out.below hwk).all s (by rw [hs.out]; exact List.getElem_mem hil)
            obtain ⟨b2, off2, hA2, hbB2, y0, y1, y2, y3, y4, y5, y6, y7, y8, y9, y10⟩ := hav.1.vs.cells k hkl
            clear y0 y1 y2 y4 y5 y7 y8 y9 y10
            rw [hA2] at x1
            have hz := hav.2.all s.vs[k] (List.getElem_mem hkl)
            have hbk := bulk_succ hkl
            obtain ⟨v, hv⟩ : ∃ v, v = s.vs[k] := ⟨_, rfl⟩
            rw [← hv] at y3 y6 hz hbk
            obtain ⟨nc, hnc⟩ : ∃ n, n = v.cs.length := ⟨_, rfl⟩
            obtain ⟨nl, hnl⟩ : ∃ n, n = v.d.l.length := ⟨_, rfl⟩
            have z1 := hz.cs
            have z2 := hz.d.l
            rw [← hnc] at y6 z1
            rw [← hnl] at y3 z2
            obtain ⟨nc0, ncI, nl0, nlI, w1, w2, w3, r1, r2⟩ := few_num L nc nl (Nat.le_trans z1 reach_num) (Nat.le_trans z2 reach_num) hneg hL1
            have hbw2 : b2 < wr.heap.size := by omega
            have hnew : L - (1 + (nc : Int) + (nl : Int)) = 1048576 - (bulks (ss.take i) : Int) - (bulk (s.vs.take (k + 1)) : Int) := few_new (hL.out hneg) (by rw [hbk]; unfold bulkV; rw [← hnc, ← hnl])
            clear hnc hnl hv hbk hz hav z1 z2 hA2
            have r1' : -281474976710656 ≤ wrap64 (L - (1 + (nc : Int) + (nl : Int))) := by rw [w3]; exact r1
            have r2' : wrap64 (L - (1 + (nc : Int) + (nl : Int))) ≤ 1048576 := by rw [w3]; exact r2
            have hnew' := w3.trans hnew
            replace hnew := Lib.hid hnew
            replace r1 := Lib.hid r1
            replace r2 := Lib.hid r2
            replace hnew' := Lib.hid hnew'
            replace r1' := Lib.hid r1'
            replace r2' := Lib.hid r2'
            go_wp2
            go_quiet (fail)
            go_wp2
            first
              | exact ⟨⟨k + 1, _, rfl, by go_num, hlt2, r1'.out, r2'.out, Lib.hid (fun _ => hnew'.out), by first | exact below_drewN hwk _ | go_grown⟩, by simp [intOf]; omega⟩
              | exact ⟨⟨k + 1, _, rfl, by go_num, hlt2, r1.out, r2.out, Lib.hid (fun _ => hnew.out), by first | exact below_drewN hwk _ | go_grown⟩, by simp [intOf]; omega⟩
          · have hneg' : decide (0 ≤ L) = false := decide_eq_false hneg
            have hgo : Hid (0 ≤ L → L = 1048576 - (bulks (ss.take (i + 1)) : Int)) := Lib.hid (fun h0 => absurd h0 hneg)
            go_wp2
            exact ⟨⟨i + 1, _, rfl, by go_num, hlt, hL0, hL1, hgo, by go_grown⟩, by simp [intOf]; omega⟩
        · obtain rfl : k = m := by omega
          have hge : decide ((k : Int) < (k : Int)) = false := by simp
          have hgo : Hid (0 ≤ L → L = 1048576 - (bulks (ss.take (i + 1)) : Int)) := Lib.hid (fun h0 => by
            rw [bulks_succ hil, ← hs.out, hL.out h0, hm.out, List.take_length]
            omega)
          go_wp2
          exact ⟨⟨i + 1, _, rfl, by go_num, hlt, hL0, hL1, hgo, by go_grown⟩, by simp [intOf]; omega⟩
    · obtain rfl : i = n := by omega
      have hE : 0 ≤ L → bulks ss ≤ 1048576 := fun h0 => by
        have := hL.out h0
        rw [hn.out, List.take_length] at this
        omega
      replace hE := Lib.hid hE
      go_wp2
      go_ret
      exact ⟨_, rfl, fun h0 => hE.out (of_decide_eq_true h0), hw⟩
end Go.Proofs.YtpiegngjpnpohaaGreat.So

namespace Go.Proofs.YtpiegngjpnpohaaGreat.Sn
open Go.RowKit Go.Proofs.YtpiegngjpnpohaaGreat.La Go.Proofs.YtpiegngjpnpohaaGreat.Sl Go.Proofs.YtpiegngjpnpohaaGreat.Ck Go.Proofs.YtpiegngjpnpohaaGreat.Rc Go.Proofs.YtpiegngjpnpohaaGreat.Rk Go.Proofs.YtpiegngjpnpohaaGreat.Wi Go.Proofs.YtpiegngjpnpohaaGreat.Fb Go.Proofs.YtpiegngjpnpohaaGreat.Mg Go.Proofs.YtpiegngjpnpohaaGreat.St Go.Proofs.YtpiegngjpnpohaaGreat.So
set_option linter.unusedVariables false
theorem sameV_c {x y : Vv} (h : x.c = y.c) : sameV x y = true := by
  simp only [Vv.c, Cv.mk.injEq] at h
  obtain ⟨h1, h2, h3, h4, h5, h6, h7, h8, h9, h10⟩ := h
  simp [sameV, sameD, sameFl, h1, h2, h3, h4, h5, h6, h7, h8, h9, h10]
theorem sameL_self : ∀ a : List Vv, sameL a a = true
  | [] => rfl
  | x :: xs => by
    unfold sameL
    rw [sameV_c rfl, sameL_self xs]; rfl
theorem sameS_self (a : Ss) : sameS a a = true := by
  unfold sameS
  rw [sameL_self]
  simp
def findC (s : Ss) (nm : ByteArray) (l : List Lab) : Cv := match findV s.vs nm l with | none => zeroV.c | some v => v.c
def findE (s : Ss) (nm : ByteArray) (l : List Lab) : Int := if findV s.vs nm l = none then 6 else 0
theorem find_C (s : Ss) (nm : ByteArray) (A0 : Option Addr) (c0 : Nat) (l : List Lab) (w : World) (h : SAt s w w.heap.size) (hq : QAt nm A0 c0 l w w.heap.size) (hb : ∀ v ∈ s.vs, v.d.l.length ≤ 4398046511104 ∧ v.cs.length ≤ 8796093022208) :
    Calls Tryz.prog 24 #[s.v, .string nm, .slice A0 l.length c0] w fun e w' => ∃ u : Vv, e = .returned (.tuple #[u.v, .int .i64 (findE s nm l)]) ∧ VAt u w' w'.heap.size ∧ u.c = findC s nm l ∧ Below w.heap.size w w' :=
  (find_any s nm A0 c0 l w h hq hb).mono fun e w' ⟨b, u, he, hu, _, hc⟩ => ⟨u, he, hu, hc, b⟩
theorem rfind_C (s : Ss) (nm : ByteArray) (A0 : Option Addr) (c0 : Nat) (l : List Lab) (w : World) (h : SAt s w w.heap.size) (hq : QAt nm A0 c0 l w w.heap.size) :
    Calls Tryz.prog 25 #[s.v, .string nm, .slice A0 l.length c0] w fun e w' => ∃ u : Vv, e = .returned (.tuple #[u.v, .int .i64 (findE s nm l)]) ∧ VAt u w' w'.heap.size ∧ u.c = findC s nm l ∧ Below w.heap.size w w' :=
  (rfind_any s nm A0 c0 l w h hq).mono fun e w' ⟨b, u, he, hu, hc⟩ => ⟨u, he, hu, (by unfold findC; rw [hc]; cases findV s.vs nm l <;> rfl), b⟩
theorem small_of {a b : Ss} (h : bulks [a, b] ≤ 1048576) : (∀ v ∈ a.vs, v.d.l.length ≤ 4398046511104 ∧ v.cs.length ≤ 8796093022208) ∧ (∀ v ∈ b.vs, v.d.l.length ≤ 4398046511104 ∧ v.cs.length ≤ 8796093022208) := by
  have h1 := bulks_mem (ss := [a, b]) (s := a) (by simp)
  have h2 := bulks_mem (ss := [a, b]) (s := b) (by simp)
  constructor
  · intro v hv
    have := bulk_mem hv
    unfold bulkV at this
    omega
  · intro v hv
    have := bulk_mem hv
    unfold bulkV at this
    omega
theorem ssAt2 {a b : Ss} {w0 w : World} {g : Nat} (ha : SAt a w0 w0.heap.size) (hb : SAt b w0 w0.heap.size) (za : SSz a) (zb : SSz b) (k : Below w0.heap.size w0 w)
    (hg : Blk w g [.int .i64 a.p, .slice a.A a.vs.length a.c, .int .u64 a.r, .int .i64 b.p, .slice b.A b.vs.length b.c, .int .u64 b.r]) : SsAt [a, b] (some ⟨g, 0, none⟩) w w.heap.size := by
  refine ⟨fun i hi => ⟨g, 0, rfl, hg.1, ?_⟩, fun s hs => ?_⟩
  · match i, hi with
    | 0, _ => exact (hg.2 1 _ rfl).1
    | 1, _ => exact (hg.2 4 _ rfl).1
  · rcases List.mem_cons.1 hs with rfl | hs
    · exact ⟨(ha.below k).mono k.size, za⟩
    · rcases List.mem_cons.1 hs with rfl | hs
      · exact ⟨(hb.below k).mono k.size, zb⟩
      · cases hs
set_option maxRecDepth 100000 in
set_option maxHeartbeats 4000000 in
theorem sfinds_any (hfx : FixedOk) (a b : Ss) (nm : ByteArray) (lA : Option Addr) (lc : Nat) (l : List Lab) (num den : Int) (w : World) (ha : SAt a w w.heap.size) (za : SSz a) (hb : SAt b w w.heap.size) (zb : SSz b)
    (hq : QAt nm lA lc l w w.heap.size) (hd : den ≤ 9223372036854775807) :
    Calls Tryz.prog 7 #[.agg #[.int .i64 a.p, .slice a.A a.vs.length a.c, .int .u64 a.r, .int .i64 b.p, .slice b.A b.vs.length b.c, .int .u64 b.r, .string nm, .slice lA l.length lc, .int .i64 num, .int .i64 den]] w
      fun e w' => e = .returned (.bool true) ∧ Below w.heap.size w w' := by
  have cF := fun (W : World) (g : Nat) (k : Below w.heap.size w W) (hg : Blk W g [.int .i64 a.p, .slice a.A a.vs.length a.c, .int .u64 a.r, .int .i64 b.p, .slice b.A b.vs.length b.c, .int .u64 b.r]) =>
    (few_any [a, b] (some ⟨g, 0, none⟩) 2 W (ssAt2 ha hb za zb k hg) (by simp)).mono (R' := fun e w' => ∃ q : Bool, e = .returned (.bool q) ∧ (q = true → bulks [a, b] ≤ 1048576) ∧ Below W.heap.size W w') fun _ _ h => h
  rw [show ([a, b] : List Ss).length = 2 from rfl] at cF
  have cf := fun (hs : bulks [a, b] ≤ 1048576) (W : World) (k : Below w.heap.size w W) => find_C a nm lA lc l W ((ha.below k).mono k.size) ((hq.below k).mono k.size) (small_of hs).1
  have cg := fun (W : World) (k : Below w.heap.size w W) => rfind_C a nm lA lc l W ((ha.below k).mono k.size) ((hq.below k).mono k.size)
  have cq := fun (hs : bulks [a, b] ≤ 1048576) (W : World) (k : Below w.heap.size w W) => squant_any a nm lA lc l num den W ((ha.below k).mono k.size) ((hq.below k).mono k.size) (small_of hs).1 hd
  have cr := fun (W : World) (k : Below w.heap.size w W) => rsquant_any a nm lA lc l num den W ((ha.below k).mono k.size) ((hq.below k).mono k.size) hd
  have cs1 := fun (W : World) (k : Below w.heap.size w W) => sameS_any a b W ((ha.below k).mono k.size) ((hb.below k).mono k.size)
  have cs2 := fun (W : World) (k : Below w.heap.size w W) => rsameS_any a b W ((ha.below k).mono k.size) ((hb.below k).mono k.size)
  have cs3 := fun (W : World) (k : Below w.heap.size w W) => sameS_any a a W ((ha.below k).mono k.size) ((ha.below k).mono k.size)
  rw [sameS_self a] at cs3
  obtain ⟨E, hE⟩ : ∃ E, E = findE a nm l := ⟨_, rfl⟩
  obtain ⟨C, hC⟩ : ∃ C, C = findC a nm l := ⟨_, rfl⟩
  obtain ⟨Q, hQ⟩ : ∃ Q, Q = quaV a nm l num den := ⟨_, rfl⟩
  obtain ⟨T, hT⟩ : ∃ T, T = sameS a b := ⟨_, rfl⟩
  obtain ⟨BB, hBB⟩ : ∃ BB : Prop, BB = (bulks [a, b] ≤ 1048576) := ⟨_, rfl⟩
  rw [← hE, ← hC] at cf cg
  rw [← hQ] at cq cr
  rw [← hT] at cs1 cs2
  rw [← hBB] at cF cf cq
  obtain ⟨Q1, Q2⟩ := Q
  unfold Ss.v at cf cg cq cr cs1 cs2 cs3
  obtain ⟨na, hna⟩ : ∃ n, n = a.vs.length := ⟨_, rfl⟩
  obtain ⟨nb, hnb⟩ : ∃ n, n = b.vs.length := ⟨_, rfl⟩
  obtain ⟨nl, hnl⟩ : ∃ n, n = l.length := ⟨_, rfl⟩
  rw [← hna, ← hnb] at cF cs1 cs2
  rw [← hna, ← hnl] at cf cg cq cr
  rw [← hna] at cs3
  rw [← hna, ← hnb, ← hnl]
  have hnew := Blk.new w [.int .i64 a.p, .slice a.A na a.c, .int .u64 a.r, .int .i64 b.p, .slice b.A nb b.c, .int .u64 b.r, .string nm, .slice lA nl lc, .int .i64 num, .int .i64 den] 38
  have hfx' := hfx
  unfold FixedOk at hfx'
  have hsf := fun (a : Addr) (x : Nat) (W : World) => run_store Tryz.prog W a (.float .f64 x) .plain rfl
  replace cF := Lib.hid cF
  replace cf := Lib.hid cf
  replace cg := Lib.hid cg
  replace cq := Lib.hid cq
  replace cr := Lib.hid cr
  replace cs1 := Lib.hid cs1
  replace cs2 := Lib.hid cs2
  replace cs3 := Lib.hid cs3
  replace hfx' := Lib.hid hfx'
  clear hE hC hQ hT hBB hna hnb hnl ha hb za zb hq hd hfx
  go_enter Tryz.func7, Tryz.ntmps7
  go_upto_region 1 with fail
  obtain ⟨w1, hw1⟩ : ∃ w1, w1 = w.alloc (.cells #[.int .i64 a.p, .slice a.A na a.c, .int .u64 a.r, .int .i64 b.p, .slice b.A nb b.c, .int .u64 b.r, .string nm, .slice lA nl lc, .int .i64 num, .int .i64 den] 38) := ⟨_, rfl⟩
  have k1 : Blk w1 w.heap.size [.int .i64 a.p, .slice a.A na a.c, .int .u64 a.r, .int .i64 b.p, .slice b.A nb b.c, .int .u64 b.r, .string nm, .slice lA nl lc, .int .i64 num, .int .i64 den] := by rw [hw1]; exact hnew
  have hb1 : Below w.heap.size w w1 := by rw [hw1]; exact (Below.refl _ _).alloc (Nat.le_refl _) _
  rw [← hw1]
  clear hw1 hnew
  obtain ⟨z0, z1, z2, z3, z4, z5, z6, z7, z8, z9⟩ : (w1.cell? ⟨w.heap.size, 0, none⟩ = some (.int .i64 a.p) ∧ w1.cell? ⟨w.heap.size, 1, none⟩ = some (.slice a.A na a.c) ∧ w1.cell? ⟨w.heap.size, 2, none⟩ = some (.int .u64 a.r) ∧ w1.cell? ⟨w.heap.size, 3, none⟩ = some (.int .i64 b.p) ∧ w1.cell? ⟨w.heap.size, 4, none⟩ = some (.slice b.A nb b.c) ∧ w1.cell? ⟨w.heap.size, 5, none⟩ = some (.int .u64 b.r) ∧ w1.cell? ⟨w.heap.size, 6, none⟩ = some (.string nm) ∧ w1.cell? ⟨w.heap.size, 7, none⟩ = some (.slice lA nl lc) ∧ w1.cell? ⟨w.heap.size, 8, none⟩ = some (.int .i64 num) ∧ w1.cell? ⟨w.heap.size, 9, none⟩ = some (.int .i64 den)) :=
    ⟨(k1.2 0 _ rfl).1, (k1.2 1 _ rfl).1, (k1.2 2 _ rfl).1, (k1.2 3 _ rfl).1, (k1.2 4 _ rfl).1, (k1.2 5 _ rfl).1, (k1.2 6 _ rfl).1, (k1.2 7 _ rfl).1, (k1.2 8 _ rfl).1, (k1.2 9 _ rfl).1⟩
  go_wp2_with fail
  have hz2 := Blk.new w1 [.int .i64 a.p, .slice a.A na a.c, .int .u64 a.r, .int .i64 b.p, .slice b.A nb b.c, .int .u64 b.r] 25
  obtain ⟨w2, hw2⟩ : ∃ w2, w2 = w1.alloc (.cells #[.int .i64 a.p, .slice a.A na a.c, .int .u64 a.r, .int .i64 b.p, .slice b.A nb b.c, .int .u64 b.r] 25) := ⟨_, rfl⟩
  have k2 : Blk w2 w1.heap.size [.int .i64 a.p, .slice a.A na a.c, .int .u64 a.r, .int .i64 b.p, .slice b.A nb b.c, .int .u64 b.r] := by rw [hw2]; exact hz2
  have hb2 : Below w1.heap.size w1 w2 := by rw [hw2]; exact (Below.refl _ _).alloc (Nat.le_refl _) _
  rw [← hw2]
  clear hw2 hz2
  have hb12 := hb1.trans (hb2.mono hb1.size)
  refine (cF.out w2 w1.heap.size hb12 k2).mono ?_
  rintro e w3 ⟨q, rfl, hqq, hb3⟩
  have hb23 := hb2.trans (hb3.mono hb2.size)
  have hb13 := hb12.trans (hb3.mono hb12.size)
  replace k1 := k1.later hb23
  clear z0 z1 z2 z3 z4 z5 z6 z7 z8 z9 cF hb12 hb1 hb2 hb3 hb23 k2
  cases q with
  | false =>
    clear cf cg cq cr cs1 cs2 cs3 hqq k1
    go_wp2_with fail
    refine (hfx'.out _).mono ?_
    rintro e w4 ⟨rfl, hb4⟩
    go_wp2
    go_ret
    exact ⟨rfl, hb13.trans (hb4.mono hb13.size)⟩
  | true =>
    have hs := hqq rfl
    have cf' := cf.out hs
    have cq' := cq.out hs
    replace cf' := Lib.hid cf'
    replace cq' := Lib.hid cq'
    clear hs hqq cf cq
    obtain ⟨z0, z1, z2, z6, z7⟩ : (w3.cell? ⟨w.heap.size, 0, none⟩ = some (.int .i64 a.p) ∧ w3.cell? ⟨w.heap.size, 1, none⟩ = some (.slice a.A na a.c) ∧ w3.cell? ⟨w.heap.size, 2, none⟩ = some (.int .u64 a.r) ∧ w3.cell? ⟨w.heap.size, 6, none⟩ = some (.string nm) ∧ w3.cell? ⟨w.heap.size, 7, none⟩ = some (.slice lA nl lc)) :=
      ⟨(k1.2 0 _ rfl).1, (k1.2 1 _ rfl).1, (k1.2 2 _ rfl).1, (k1.2 6 _ rfl).1, (k1.2 7 _ rfl).1⟩
    go_wp2_with fail
    refine (cf'.out _ hb13).mono ?_
    rintro e w4 ⟨u, rfl, hu, huc, hb4⟩
    clear z0 z1 z2 z6 z7 cf'
    unfold Vv.v
    have hnew := Blk.new w4 u.row 49
    unfold Vv.row at hnew
    replace hu := Lib.hid hu
    replace huc := Lib.hid huc
    go_upto_region 4 with fail
    obtain ⟨w5, hw5⟩ : ∃ w5, w5 = w4.alloc (.cells #[.int .i64 u.d.kind, .string u.d.name, .string u.d.help, .slice u.d.A u.d.l.length u.d.c, .int .i64 (hiI u.t), .int .u64 (loI u.t), .slice u.CA u.cs.length u.cc, .int .u64 u.n, .float .f64 u.sm, .float .f64 u.mn, .float .f64 u.mx] 49) := ⟨_, rfl⟩
    have k5 : Blk w5 w4.heap.size [.int .i64 u.d.kind, .string u.d.name, .string u.d.help, .slice u.d.A u.d.l.length u.d.c, .int .i64 (hiI u.t), .int .u64 (loI u.t), .slice u.CA u.cs.length u.cc, .int .u64 u.n, .float .f64 u.sm, .float .f64 u.mn, .float .f64 u.mx] := by rw [hw5]; exact hnew
    have hb5 : Below w4.heap.size w4 w5 := by rw [hw5]; exact (Below.refl _ _).alloc (Nat.le_refl _) _
    rw [← hw5]
    clear hw5 hnew
    have hb45 := hb4.trans (hb5.mono hb4.size)
    have hb15 := hb13.trans (hb45.mono hb13.size)
    replace k1 := k1.later hb45
    obtain ⟨z0, z1, z2, z6, z7⟩ : (w5.cell? ⟨w.heap.size, 0, none⟩ = some (.int .i64 a.p) ∧ w5.cell? ⟨w.heap.size, 1, none⟩ = some (.slice a.A na a.c) ∧ w5.cell? ⟨w.heap.size, 2, none⟩ = some (.int .u64 a.r) ∧ w5.cell? ⟨w.heap.size, 6, none⟩ = some (.string nm) ∧ w5.cell? ⟨w.heap.size, 7, none⟩ = some (.slice lA nl lc)) :=
      ⟨(k1.2 0 _ rfl).1, (k1.2 1 _ rfl).1, (k1.2 2 _ rfl).1, (k1.2 6 _ rfl).1, (k1.2 7 _ rfl).1⟩
    have hu5 := ((hu.out.below hb5).mono hb5.size)
    replace hu5 := Lib.hid hu5
    clear hu hb4 hb5 hb45 hb13
    go_wp2_with fail
    refine (cg.out _ hb15).mono ?_
    rintro e w6 ⟨t, rfl, ht, htc, hb6⟩
    clear z0 z1 z2 z6 z7 cg
    unfold Vv.v
    have hnew := Blk.new w6 t.row 49
    unfold Vv.row at hnew
    replace ht := Lib.hid ht
    replace htc := Lib.hid htc
    go_upto_region 5 with fail
    obtain ⟨w7, hw7⟩ : ∃ w7, w7 = w6.alloc (.cells #[.int .i64 t.d.kind, .string t.d.name, .string t.d.help, .slice t.d.A t.d.l.length t.d.c, .int .i64 (hiI t.t), .int .u64 (loI t.t), .slice t.CA t.cs.length t.cc, .int .u64 t.n, .float .f64 t.sm, .float .f64 t.mn, .float .f64 t.mx] 49) := ⟨_, rfl⟩
    have k7 : Blk w7 w6.heap.size [.int .i64 t.d.kind, .string t.d.name, .string t.d.help, .slice t.d.A t.d.l.length t.d.c, .int .i64 (hiI t.t), .int .u64 (loI t.t), .slice t.CA t.cs.length t.cc, .int .u64 t.n, .float .f64 t.sm, .float .f64 t.mn, .float .f64 t.mx] := by rw [hw7]; exact hnew
    have hb7 : Below w6.heap.size w6 w7 := by rw [hw7]; exact (Below.refl _ _).alloc (Nat.le_refl _) _
    rw [← hw7]
    clear hw7 hnew
    have hb67 := hb6.trans (hb7.mono hb6.size)
    have hb17 := hb15.trans (hb67.mono hb15.size)
    replace k1 := k1.later hb67
    replace k5 := k5.later hb67
    have cV := fun (W : World) (k : Below w7.heap.size w7 W) => rsameV_any u t W (((hu5.out.below hb67).mono hb67.size |>.below k).mono k.size) (((ht.out.below hb7).mono hb7.size |>.below k).mono k.size)
    rw [sameV_c (huc.out.trans htc.out.symm)] at cV
    unfold Vv.v at cV
    obtain ⟨du, hdu⟩ : ∃ n, n = u.d.l.length := ⟨_, rfl⟩
    obtain ⟨dt, hdt⟩ : ∃ n, n = t.d.l.length := ⟨_, rfl⟩
    obtain ⟨eu, heu⟩ : ∃ n, n = u.cs.length := ⟨_, rfl⟩
    obtain ⟨et, het⟩ : ∃ n, n = t.cs.length := ⟨_, rfl⟩
    rw [← hdu, ← heu] at cV k5
    rw [← hdt, ← het] at cV k7
    replace cV := Lib.hid cV
    clear hdu hdt heu het hu5 ht huc htc hb6 hb7 hb67 hb15
    obtain ⟨z0, z1, z2, z6, z7, z8, z9⟩ : (w7.cell? ⟨w.heap.size, 0, none⟩ = some (.int .i64 a.p) ∧ w7.cell? ⟨w.heap.size, 1, none⟩ = some (.slice a.A na a.c) ∧ w7.cell? ⟨w.heap.size, 2, none⟩ = some (.int .u64 a.r) ∧ w7.cell? ⟨w.heap.size, 6, none⟩ = some (.string nm) ∧ w7.cell? ⟨w.heap.size, 7, none⟩ = some (.slice lA nl lc) ∧ w7.cell? ⟨w.heap.size, 8, none⟩ = some (.int .i64 num) ∧ w7.cell? ⟨w.heap.size, 9, none⟩ = some (.int .i64 den)) :=
      ⟨(k1.2 0 _ rfl).1, (k1.2 1 _ rfl).1, (k1.2 2 _ rfl).1, (k1.2 6 _ rfl).1, (k1.2 7 _ rfl).1, (k1.2 8 _ rfl).1, (k1.2 9 _ rfl).1⟩
    go_wp2_with fail
    refine (cq'.out _ hb17).mono ?_
    rintro e w8 ⟨rfl, hb8⟩
    clear z0 z1 z2 z6 z7 z8 z9 cq'
    have hb18 := hb17.trans (hb8.mono hb17.size)
    have k18 := k1.later hb8
    obtain ⟨z0, z1, z2, z6, z7, z8, z9⟩ : (w8.cell? ⟨w.heap.size, 0, none⟩ = some (.int .i64 a.p) ∧ w8.cell? ⟨w.heap.size, 1, none⟩ = some (.slice a.A na a.c) ∧ w8.cell? ⟨w.heap.size, 2, none⟩ = some (.int .u64 a.r) ∧ w8.cell? ⟨w.heap.size, 6, none⟩ = some (.string nm) ∧ w8.cell? ⟨w.heap.size, 7, none⟩ = some (.slice lA nl lc) ∧ w8.cell? ⟨w.heap.size, 8, none⟩ = some (.int .i64 num) ∧ w8.cell? ⟨w.heap.size, 9, none⟩ = some (.int .i64 den)) :=
      ⟨(k18.2 0 _ rfl).1, (k18.2 1 _ rfl).1, (k18.2 2 _ rfl).1, (k18.2 6 _ rfl).1, (k18.2 7 _ rfl).1, (k18.2 8 _ rfl).1, (k18.2 9 _ rfl).1⟩
    go_wp2_with fail
    refine (cr.out _ hb18).mono ?_
    rintro e w9 ⟨rfl, hb9⟩
    clear z0 z1 z2 z6 z7 z8 z9 cr k18
    have hb79 := hb8.trans (hb9.mono hb8.size)
    have hb19 := hb17.trans (hb79.mono hb17.size)
    have k19 := k1.later hb79
    have k59 := k5.later hb79
    have k79 := k7.later hb79
    obtain ⟨z0, z1, z2, z3, z4, z5⟩ : (w9.cell? ⟨w.heap.size, 0, none⟩ = some (.int .i64 a.p) ∧ w9.cell? ⟨w.heap.size, 1, none⟩ = some (.slice a.A na a.c) ∧ w9.cell? ⟨w.heap.size, 2, none⟩ = some (.int .u64 a.r) ∧ w9.cell? ⟨w.heap.size, 3, none⟩ = some (.int .i64 b.p) ∧ w9.cell? ⟨w.heap.size, 4, none⟩ = some (.slice b.A nb b.c) ∧ w9.cell? ⟨w.heap.size, 5, none⟩ = some (.int .u64 b.r)) :=
      ⟨(k19.2 0 _ rfl).1, (k19.2 1 _ rfl).1, (k19.2 2 _ rfl).1, (k19.2 3 _ rfl).1, (k19.2 4 _ rfl).1, (k19.2 5 _ rfl).1⟩
    have l1 := k19.1
    have l5 := k59.1
    have l7 := k79.1
    clear k1 k5 k7 k19 hb8 hb9 hb17 hb18
    go_upto_region 7 with fail
    refine Reg.region_below (by kernel_rfl) (by kernel_rfl) ?_
    intro Sx _ f hf hs
    have y0 := Reg.keepc hf l1 z0
    have y1 := Reg.keepc hf l1 z1
    have y2 := Reg.keepc hf l1 z2
    have y3 := Reg.keepc hf l1 z3
    have y4 := Reg.keepc hf l1 z4
    have y5 := Reg.keepc hf l1 z5
    have u0 := Reg.keepc hf l5 (k59.2 0 _ rfl).1
    have u1 := Reg.keepc hf l5 (k59.2 1 _ rfl).1
    have u2 := Reg.keepc hf l5 (k59.2 2 _ rfl).1
    have u3 := Reg.keepc hf l5 (k59.2 3 _ rfl).1
    have u4 := Reg.keepc hf l5 (k59.2 4 _ rfl).1
    have u5 := Reg.keepc hf l5 (k59.2 5 _ rfl).1
    have u6 := Reg.keepc hf l5 (k59.2 6 _ rfl).1
    have u7 := Reg.keepc hf l5 (k59.2 7 _ rfl).1
    have u8 := Reg.keepc hf l5 (k59.2 8 _ rfl).1
    have u9 := Reg.keepc hf l5 (k59.2 9 _ rfl).1
    have ua := Reg.keepc hf l5 (k59.2 10 _ rfl).1
    have t0 := Reg.keepc hf l7 (k79.2 0 _ rfl).1
    have t1 := Reg.keepc hf l7 (k79.2 1 _ rfl).1
    have t2 := Reg.keepc hf l7 (k79.2 2 _ rfl).1
    have t3 := Reg.keepc hf l7 (k79.2 3 _ rfl).1
    have t4 := Reg.keepc hf l7 (k79.2 4 _ rfl).1
    have t5 := Reg.keepc hf l7 (k79.2 5 _ rfl).1
    have t6 := Reg.keepc hf l7 (k79.2 6 _ rfl).1
    have t7 := Reg.keepc hf l7 (k79.2 7 _ rfl).1
    have t8 := Reg.keepc hf l7 (k79.2 8 _ rfl).1
    have t9 := Reg.keepc hf l7 (k79.2 9 _ rfl).1
    have ta := Reg.keepc hf l7 (k79.2 10 _ rfl).1
    have kk := fun s => hb19.trans ((hf s).mono hb19.size)
    have kv := fun s => hb79.trans ((hf s).mono hb79.size)
    have q1 := fun s => cV.out (f s) (kv s)
    have q2 := fun s => cs1.out (f s) (kk s)
    have q3 := fun s => cs2.out (f s) (kk s)
    have q4 := fun s => cs3.out (f s) (kk s)
    clear k59 k79 z0 z1 z2 z3 z4 z5
    repeat (go_big_quiet_step ((first | (go_at_call 26; with_reducible exact Reg.met hs (q1 _)) | (go_at_call 29; with_reducible exact Reg.met hs (q2 _)) | (go_at_call 29; with_reducible exact Reg.met hs (q4 _)) | (go_at_call 17; with_reducible exact Reg.met hs (q3 _)) | (go_at_call 14; with_reducible exact Reg.met hs (hfx'.out _)))))
    refine wpQuiet_nil ?_
    intro s'
    have hb10 := hf s'
    obtain ⟨w10, hw10⟩ : ∃ w10, w10 = f s' := ⟨_, rfl⟩
    rw [← hw10] at hb10 ⊢
    clear hw10 hs hf q1 q2 q3 q4 kk kv y0 y1 y2 y3 y4 y5 u0 u1 u2 u3 u4 u5 u6 u7 u8 u9 ua t0 t1 t2 t3 t4 t5 t6 t7 t8 t9 ta
    go_wp2
    go_ret
    exact ⟨by simp, hb19.trans (hb10.mono hb19.size)⟩
end Go.Proofs.YtpiegngjpnpohaaGreat.Sn
