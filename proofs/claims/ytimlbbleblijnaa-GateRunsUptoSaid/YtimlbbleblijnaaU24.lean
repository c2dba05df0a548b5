/- Lemmas for the laws of this seat, laid together of PIp, PIc. -/
import Derived.Test.YtimlbbleblijnaaU18
import Derived.Test.YtimlbbleblijnaaU19
import Derived.Test.YtimlbbleblijnaaU20
import Derived.Test.YtimlbbleblijnaaU21
import Derived.Test.YtimlbbleblijnaaU23

open Go.ConcR.Gen (base_kind baseD_kind)
set_option linter.unusedVariables false
set_option linter.unusedSimpArgs false
namespace Go.Proofs.Ytimlbbleblijnaa.Co
open Go Go.Conc Go.RowKit
open Go.ConcN (sumTo upd sumTo_upd upd_ne upd_same sumTo_congr le_sumTo)
theorem tldsV_get : ∀ {ms : List Tld} {i : Nat} {m : Tld}, ms[i]? = some m → ∀ {j : Nat}, j < 5 → (tldsV ms)[i * 5 + j]? = (tldV m)[j]?
  | m0 :: ms, 0, m, h, j, hj => by
    cases h
    have e : tldsV (m0 :: ms) = tldV m0 ++ tldsV ms := by simp [tldsV]
    rw [e, List.getElem?_append_left (by simp [tldV]; omega), Nat.zero_mul, Nat.zero_add]
  | m0 :: ms, i + 1, m, h, j, hj => by
    have e : tldsV (m0 :: ms) = tldV m0 ++ tldsV ms := by simp [tldsV]
    have hl : (tldV m0).length = 5 := rfl
    rw [e, List.getElem?_append_right (by rw [hl]; omega), hl, show (i + 1) * 5 + j - 5 = i * 5 + j by omega]
    exact tldsV_get (by simpa using h) hj
  | [], _, _, h, _, _ => by simp at h
def TldAt (x : World) (v : Value) (ms : List Tld) : Prop := ∃ (A : Option Addr) (g cap : Nat), v = .slice A ms.length cap ∧ (0 < ms.length → A = some ⟨g, 0, none⟩) ∧ ∀ i u, (tldsV ms)[i]? = some u → x.cell? ⟨g, i, none⟩ = some u
theorem TldAt.of_owns {x : World} {B : Nat} {v : Value} {ms : List Tld} (h : x.ownsRow B 117 5 v ms.length (tldsV ms)) : TldAt x v ms := by
  obtain ⟨h1, h2⟩ := h
  rcases h2 with ⟨rfl, h0⟩ | ⟨g, cap, cur, rfl, hb, hg, _, _, _, ht⟩
  · have : ms = [] := List.eq_nil_of_length_eq_zero h0
    subst this
    exact ⟨none, 0, 0, rfl, fun h => absurd h (Nat.lt_irrefl _), fun i u hu => by simp [tldsV] at hu⟩
  · refine ⟨_, g, cap, rfl, fun _ => rfl, fun i u hu => ?_⟩
    rw [← ht] at hu
    refine obj_cell hg ?_
    rw [← Array.getElem?_toList]
    rw [List.getElem?_take] at hu
    split at hu
    · exact hu
    · cases hu
theorem TldAt.mark {x : World} {g : Nat} {ms : List Tld} (h : ∀ i u, (tldsV ms)[i]? = some u → x.cell? ⟨g, i, none⟩ = some u) {i : Nat} {m : Tld} (hm : ms[i]? = some m) : x.cell? ⟨g, i * 5, none⟩ = some (.int .i64 m.1) ∧ x.cell? ⟨g, i * 5 + 1, none⟩ = some (.int .i64 m.2.1) ∧ x.cell? ⟨g, i * 5 + 2, none⟩ = some (.int .i64 m.2.2.1) ∧ x.cell? ⟨g, i * 5 + 3, none⟩ = some (.int .i64 m.2.2.2.1) ∧ x.cell? ⟨g, i * 5 + 4, none⟩ = some (.int .i64 m.2.2.2.2) := by
  have hmk : ∀ j, j < 5 → (tldsV ms)[i * 5 + j]? = (tldV m)[j]? := fun j hj => tldsV_get hm hj
  exact ⟨h _ _ (by have := hmk 0 (by decide); simpa [tldV] using this), h _ _ (by have := hmk 1 (by decide); simpa [tldV] using this), h _ _ (by have := hmk 2 (by decide); simpa [tldV] using this), h _ _ (by have := hmk 3 (by decide); simpa [tldV] using this), h _ _ (by have := hmk 4 (by decide); simpa [tldV] using this)⟩
set_option maxRecDepth 100000 in
set_option maxHeartbeats 4000000 in
theorem told_same {x : World} {av bv : Value} {ms : List Tld} (ha : TldAt x av ms) (hb : TldAt x bv ms) (hml : ms.length ≤ 1000000000000) :
    Calls Try.prog 40 #[av, bv] x fun e x' => e = .returned (.bool true) ∧ ∃ k, x' = x.drewN k := by
  obtain ⟨A, g, cap, rfl, ha1, ha2⟩ := ha
  obtain ⟨A', g', cap', rfl, hb1, hb2⟩ := hb
  replace ha2 := Lib.hid ha2
  replace hb2 := Lib.hid hb2
  go_enter Try.func40, Try.ntmps40
  go_wp2
  go_loopw [5] (fun v wr => ∃ i : Nat, v = .int .i64 (i : Int) ∧ i ≤ ms.length ∧ ∃ k, wr = x.drewN k) (fun v _ => ms.length + 1 - natOfV v)
  case atStart => exact ⟨0, rfl, Nat.zero_le _, 0, rfl⟩
  case round =>
    obtain ⟨i, rfl, hi, k, rfl⟩ := hrel
    by_cases hlt : i < ms.length
    · obtain rfl := ha1 (by omega)
      obtain rfl := hb1 (by omega)
      obtain ⟨⟨m1, m2, m3, m4, m5⟩, hm⟩ : ∃ m, ms[i]? = some m := ⟨_, List.getElem?_eq_getElem hlt⟩
      obtain ⟨a1, a2, a3, a4, a5⟩ := TldAt.mark ha2.out hm
      obtain ⟨b1, b2, b3, b4, b5⟩ := TldAt.mark hb2.out hm
      dsimp only at a1 a2 a3 a4 a5 b1 b2 b3 b4 b5
      have g1 : (i : Int) < (ms.length : Int) := by omega
      have g2 : (0 : Int) ≤ (i : Int) := by omega
      have hiw : IntKind.i64.wrap ((i : Int) + 1) = ((i + 1 : Nat) : Int) := by rw [IntKind.wrap_i64]; omega
      go_wp2
      go_quiet (fail)
      go_wp2
      exact ⟨⟨i + 1, by rw [Int.natCast_add]; rfl, by omega, _, rfl⟩, by have e : natOfV (.int .i64 ((i : Int) + 1)) = i + 1 := by simp [natOfV]
                                                                         rw [e]; simp [natOfV]; omega⟩
    · obtain rfl : i = ms.length := by omega
      have g1 : ¬ (ms.length : Int) < (ms.length : Int) := by omega
      go_wp2
      go_ret
      exact ⟨rfl, k, rfl⟩
def rTl (ts : List (List Int)) (z : RA × Int) : List Tld := if 8 < ts.length then [] else z.1.told
def rK (ts : List (List Int)) (z : RA × Int) : Int := if 8 < ts.length then 0 else z.2
theorem rbodies_any {x : World} {ba bo cap pb po pcap : Nat} {ta pa : Option Addr} {LA : Nat → Option Addr} {LC : Nat → Nat} {ts : List (List Int)} {picks : List Int} {drain : Bool} {z : RA × Int} (hz : (runG ts).Run picks drain (ra0 ts ts.length) z)
    (hT : IntsTX x ta ba bo LA LC ts) (hpa : picks ≠ [] → pa = some ⟨pb, po, none⟩) (hps : ∀ i p, picks[i]? = some p → x.cell? ⟨pb, po + i, none⟩ = some (.int .i64 p)) (hnp : picks.length ≤ 100000000000) (hll : ∀ l ∈ ts, l.length ≤ 100000000000) (hsum : ts.length ≤ 8 → sumTo ts.length (fun t => (opsOf ts t).length) ≤ 800000000000) (hp64 : ∀ p ∈ picks, -9223372036854775808 ≤ p ∧ p ≤ 9223372036854775807) (hz2 : ts.length ≤ 8 → z.2 ≤ 100000000000000) :
    Calls Try.prog 38 #[.slice ta ts.length cap, .slice pa picks.length pcap, .bool drain] x fun e x' => ∃ ov, e = .returned (.tuple #[ov, .int .i64 (rK ts z)]) ∧ (∀ b, b < x.heap.size → x'.heap[b]? = x.heap[b]?) ∧ x'.ownsRow x.heap.size 117 5 ov (rTl ts z).length (tldsV (rTl ts z)) := by
  unfold rTl rK
  by_cases h : 8 < ts.length
  · rw [if_pos h, if_pos h]
    refine (rbodies_many h).mono ?_
    rintro e x' ⟨rfl, rfl⟩
    exact ⟨_, rfl, fun b _ => rfl, ⟨by simp [tldsV], .inl ⟨rfl, rfl⟩⟩⟩
  · rw [if_neg h, if_neg h]
    exact rbodies_few (by omega) hz hT hpa hps hnp hll (hsum (by omega)) hp64 (hz2 (by omega))
def rnF : FuncId → Bool := fun f => f == 19 || f == 24 || f == 26 || f == 38 || f == 40 || f == 66 || f == 77
set_option maxRecDepth 100000 in
theorem closed_rn : Closed Try.prog rnF := by
  refine ⟨fun f hf => ?_, fun f fn c hf hfn hb => ?_⟩
  · have h : f = 19 ∨ f = 24 ∨ f = 26 ∨ f = 38 ∨ f = 40 ∨ f = 66 ∨ f = 77 := by simpa [rnF, or_assoc] using hf
    rcases h with rfl | rfl | rfl | rfl | rfl | rfl | rfl
    · exact ⟨Try.f19, Try.func19, by kernel_rfl, .inl (by rfl)⟩
    · exact ⟨Try.f24, Try.func24, by kernel_rfl, .inl (by rfl)⟩
    · exact ⟨Try.f26, Try.func26, by kernel_rfl, .inl (by rfl)⟩
    · exact ⟨Try.f38, Try.func38, by kernel_rfl, .inl (by rfl)⟩
    · exact ⟨Try.f40, Try.func40, by kernel_rfl, .inl (by rfl)⟩
    · exact ⟨Try.f66, Try.func66, by kernel_rfl, .inl (by rfl)⟩
    · exact ⟨Try.f77, Try.func77, by kernel_rfl, .inl (by rfl)⟩
  · have h : f = 19 ∨ f = 24 ∨ f = 26 ∨ f = 38 ∨ f = 40 ∨ f = 66 ∨ f = 77 := by simpa [rnF, or_assoc] using hf
    rcases h with rfl | rfl | rfl | rfl | rfl | rfl | rfl
    · rw [Try.func19] at hfn
      obtain rfl := Option.some.inj hfn
      have h2 : Try.f19.body = some (Try.f19.body.getD .skip) := by rfl
      rw [h2] at hb
      obtain rfl := Option.some.inj hb
      show quietCode Try.prog rnF (Try.f19.body.getD .skip) = true
      kernel_rfl
    · rw [Try.func24] at hfn
      obtain rfl := Option.some.inj hfn
      have h2 : Try.f24.body = some (Try.f24.body.getD .skip) := by rfl
      rw [h2] at hb
      obtain rfl := Option.some.inj hb
      show quietCode Try.prog rnF (Try.f24.body.getD .skip) = true
      kernel_rfl
    · rw [Try.func26] at hfn
      obtain rfl := Option.some.inj hfn
      have h2 : Try.f26.body = some (Try.f26.body.getD .skip) := by rfl
      rw [h2] at hb
      obtain rfl := Option.some.inj hb
      show quietCode Try.prog rnF (Try.f26.body.getD .skip) = true
      kernel_rfl
    · rw [Try.func38] at hfn
      obtain rfl := Option.some.inj hfn
      have h2 : Try.f38.body = some (Try.f38.body.getD .skip) := by rfl
      rw [h2] at hb
      obtain rfl := Option.some.inj hb
      show quietCode Try.prog rnF (Try.f38.body.getD .skip) = true
      kernel_rfl
    · rw [Try.func40] at hfn
      obtain rfl := Option.some.inj hfn
      have h2 : Try.f40.body = some (Try.f40.body.getD .skip) := by rfl
      rw [h2] at hb
      obtain rfl := Option.some.inj hb
      show quietCode Try.prog rnF (Try.f40.body.getD .skip) = true
      kernel_rfl
    · rw [Try.func66] at hfn
      obtain rfl := Option.some.inj hfn
      have h2 : Try.f66.body = some (Try.f66.body.getD .skip) := by rfl
      rw [h2] at hb
      obtain rfl := Option.some.inj hb
      show quietCode Try.prog rnF (Try.f66.body.getD .skip) = true
      kernel_rfl
    · rw [Try.func77] at hfn
      obtain rfl := Option.some.inj hfn
      have h2 : Try.f77.body = some (Try.f77.body.getD .skip) := by rfl
      rw [h2] at hb
      obtain rfl := Option.some.inj hb
      show quietCode Try.prog rnF (Try.f77.body.getD .skip) = true
      kernel_rfl
noncomputable def rB0 : Code := Try.f7.body.getD .skip
noncomputable def rS0 : Code := match rB0 with | .seq x _ => x | _ => .skip
noncomputable def rS1 : Code := match rB0 with | .seq _ (.seq x _) => x | _ => .skip
noncomputable def rT2 : Code := match rB0 with | .seq _ (.seq _ x) => x | _ => .skip
noncomputable def rS2 : Code := match rT2 with | .seq x _ => x | _ => .skip
noncomputable def rT3 : Code := match rT2 with | .seq _ x => x | _ => .skip
noncomputable def rS3 : Code := match rT3 with | .seq (.seq x _) _ => x | _ => .skip
noncomputable def rL : Code := match rT3 with | .seq (.seq _ (.block _ (.loop c))) _ => c | _ => .skip
noncomputable def rT13 : Code := match rT3 with | .seq _ x => x | _ => .skip
noncomputable def rS4 : Code := match rL with | .seq (.seq x _) _ => x | _ => .skip
noncomputable def rIf : Code := match rL with | .seq (.seq _ x) _ => x | _ => .skip
noncomputable def rBl : Code := match rL with | .seq _ (.seq (.block _ x) _) => x | _ => .skip
noncomputable def rS5 : Code := match rL with | .seq _ (.seq _ x) => x | _ => .skip
noncomputable def rS6 : Code := match rBl with | .seq x _ => x | _ => .skip
noncomputable def rS7 : Code := match rBl with | .seq _ (.seq x _) => x | _ => .skip
noncomputable def rS8 : Code := match rBl with | .seq _ (.seq _ (.seq x _)) => x | _ => .skip
noncomputable def rT9 : Code := match rBl with | .seq _ (.seq _ (.seq _ x)) => x | _ => .skip
noncomputable def rS9 : Code := match rT9 with | .seq x _ => x | _ => .skip
noncomputable def rS10 : Code := match rT9 with | .seq _ (.seq x _) => x | _ => .skip
noncomputable def rT11 : Code := match rT9 with | .seq _ (.seq _ x) => x | _ => .skip
noncomputable def rS11 : Code := match rT11 with | .seq x _ => x | _ => .skip
noncomputable def rCd : Code := match rT11 with | .seq _ x => x | _ => .skip
set_option maxRecDepth 100000 in
theorem rB0_parts : rB0 = .seq rS0 (.seq rS1 rT2) := by kernel_rfl
set_option maxRecDepth 100000 in
theorem rT2_parts : rT2 = .seq rS2 rT3 := by kernel_rfl
set_option maxRecDepth 100000 in
theorem rT3_parts : rT3 = .seq (.seq rS3 (.block 0 (.loop rL))) rT13 := by kernel_rfl
set_option maxRecDepth 100000 in
theorem rL_parts : rL = .seq (.seq rS4 rIf) (.seq (.block 1 rBl) rS5) := by kernel_rfl
set_option maxRecDepth 100000 in
theorem rBl_parts : rBl = .seq rS6 (.seq rS7 (.seq rS8 rT9)) := by kernel_rfl
set_option maxRecDepth 100000 in
theorem rT9_parts : rT9 = .seq rS9 (.seq rS10 (.seq rS11 rCd)) := by kernel_rfl
set_option maxRecDepth 100000 in
set_option maxHeartbeats 4000000 in
theorem rS2_wp {f : Nat → Value} {x : World} {v0 v1 v2 : Value} {PC : Ending → World → Prop} {Q : Exit → Act → World → Prop} (h0 : f 0 = v0) (h1 : f 1 = v1) (h2 : f 2 = v2) (hc : Calls Try.prog 38 #[v0, v1, v2] x PC) (hr : ∀ e x', PC e x' → ∃ rv kv, e = .returned (.tuple #[rv, kv]))
    (hQ : ∀ T' x' rv kv, T'.size = 62 → (∀ j, j < 16 → j ≠ 8 → j ≠ 9 → T'[j]? = some (f j)) → T'[8]? = some rv → T'[9]? = some kv → PC (.returned (.tuple #[rv, kv])) x' → Q .normal ⟨T', []⟩ x') : rS2.wp Try.prog Q ⟨(List.map f (List.range 62)).toArray, []⟩ x := by
  simp only [List.range, List.range.loop, List.map_cons, List.map_nil, h0, h1, h2]
  simp only [rS2, rT2, rB0, Try.f7, Option.getD_some]
  go_wp2_with fail
  refine hc.mono ?_
  rintro e x' he
  obtain ⟨rv, kv, rfl⟩ := hr e x' he
  replace he := Lib.hid he
  go_wp2_with fail
  exact hQ _ _ rv kv (by simp) (fun j hj h9 h10 => by
    match j, hj with
    | 0, _ | 1, _ | 2, _ | 3, _ | 4, _ | 5, _ | 6, _ | 7, _ | 10, _ | 11, _ | 12, _ | 13, _ | 14, _ | 15, _ => simp [h0, h1, h2]
    | 8, _ => exact absurd rfl h9
    | 9, _ => exact absurd rfl h10
    | j + 16, h => exact absurd h (by omega)) (by simp) (by simp) he.out
set_option maxRecDepth 100000 in
set_option maxHeartbeats 4000000 in
theorem rS7_wp {f : Nat → Value} {x : World} {v0 : Value} {PC : Ending → World → Prop} {Q : Exit → Act → World → Prop} (h0 : f 1 = v0) (hc : Calls Try.prog 19 #[v0] x PC) (hr : ∀ e x', PC e x' → ∃ rv, e = .returned rv)
    (hQ : ∀ T' x' rv, T'.size = 62 → (∀ j, j < 16 → j ≠ 12 → T'[j]? = some (f j)) → T'[12]? = some rv → PC (.returned rv) x' → Q .normal ⟨T', []⟩ x') : rS7.wp Try.prog Q ⟨(List.map f (List.range 62)).toArray, []⟩ x := by
  simp only [List.range, List.range.loop, List.map_cons, List.map_nil, h0]
  simp only [rS7, rBl, rL, rT3, rT2, rB0, Try.f7, Option.getD_some]
  go_wp2_with fail
  refine hc.mono ?_
  rintro e x' he
  obtain ⟨rv, rfl⟩ := hr e x' he
  replace he := Lib.hid he
  go_wp2_with fail
  exact hQ _ _ rv (by simp) (fun j hj h9 => by
    match j, hj with
    | 0, _ | 1, _ | 2, _ | 3, _ | 4, _ | 5, _ | 6, _ | 7, _ | 8, _ | 9, _ | 10, _ | 11, _ | 13, _ | 14, _ | 15, _ => simp [h0]
    | 12, _ => exact absurd rfl h9
    | j + 16, h => exact absurd h (by omega)) (by simp) he.out
set_option maxRecDepth 100000 in
set_option maxHeartbeats 4000000 in
theorem rS10_wp {f : Nat → Value} {x : World} {v0 v1 : Value} {PC : Ending → World → Prop} {Q : Exit → Act → World → Prop} (h0 : f 12 = v0) (h1 : f 1 = v1) (hc : Calls Try.prog 24 #[v0, v1] x PC) (hr : ∀ e x', PC e x' → ∃ rv, e = .returned rv)
    (hQ : ∀ T' x' rv, T'.size = 62 → (∀ j, j < 16 → j ≠ 15 → T'[j]? = some (f j)) → T'[15]? = some rv → PC (.returned rv) x' → Q .normal ⟨T', []⟩ x') : rS10.wp Try.prog Q ⟨(List.map f (List.range 62)).toArray, []⟩ x := by
  simp only [List.range, List.range.loop, List.map_cons, List.map_nil, h0, h1]
  simp only [rS10, rT9, rBl, rL, rT3, rT2, rB0, Try.f7, Option.getD_some]
  go_wp2_with fail
  refine hc.mono ?_
  rintro e x' he
  obtain ⟨rv, rfl⟩ := hr e x' he
  replace he := Lib.hid he
  go_wp2_with fail
  exact hQ _ _ rv (by simp) (fun j hj h9 => by
    match j, hj with
    | 0, _ | 1, _ | 2, _ | 3, _ | 4, _ | 5, _ | 6, _ | 7, _ | 8, _ | 9, _ | 10, _ | 11, _ | 12, _ | 13, _ | 14, _ => simp [h0, h1]
    | 15, _ => exact absurd rfl h9
    | j + 16, h => exact absurd h (by omega)) (by simp) he.out
set_option maxRecDepth 100000 in
set_option maxHeartbeats 4000000 in
theorem rS9_wp {f : Nat → Value} {x : World} {bb : Nat} {lv v1 : Value} {PC : Ending → World → Prop} {Q : Exit → Act → World → Prop} (h0 : f 11 = .pointer (some ⟨bb, 0, none⟩)) (h1 : f 8 = v1) (hl : x.cell? ⟨bb, 0, none⟩ = some lv) (hc : Calls Try.prog 40 #[lv, v1] x PC) (hr : ∀ e x', PC e x' → ∃ rv, e = .returned rv)
    (hQ : ∀ T' x' rv, T'.size = 62 → (∀ j, j < 16 → j ≠ 14 → T'[j]? = some (f j)) → T'[14]? = some rv → PC (.returned rv) x' → Q .normal ⟨T', []⟩ x') : rS9.wp Try.prog Q ⟨(List.map f (List.range 62)).toArray, []⟩ x := by
  simp only [List.range, List.range.loop, List.map_cons, List.map_nil, h0, h1]
  simp only [rS9, rT9, rBl, rL, rT3, rT2, rB0, Try.f7, Option.getD_some]
  go_wp2_with fail
  refine hc.mono ?_
  rintro e x' he
  obtain ⟨rv, rfl⟩ := hr e x' he
  replace he := Lib.hid he
  go_wp2_with fail
  exact hQ _ _ rv (by simp) (fun j hj h9 => by
    match j, hj with
    | 0, _ | 1, _ | 2, _ | 3, _ | 4, _ | 5, _ | 6, _ | 7, _ | 8, _ | 9, _ | 10, _ | 11, _ | 12, _ | 13, _ | 15, _ => simp [h0, h1]
    | 14, _ => exact absurd rfl h9
    | j + 16, h => exact absurd h (by omega)) (by simp) he.out
set_option maxRecDepth 100000 in
set_option maxHeartbeats 4000000 in
theorem rS11_wp {f : Nat → Value} {x : World} {n : Int} {Q : Exit → Act → World → Prop} (h7 : f 7 = .bool true) (h13 : f 13 = .int .i64 n) (h9 : f 9 = .int .i64 n) (h14 : f 14 = .bool true) (h15 : f 15 = .bool true)
    (hQ : ∀ T', T'.size = 62 → (∀ j, j < 16 → T'[j]? = some (f j)) → T'[61]? = some (.bool false) → Q .normal ⟨T', []⟩ x) : rS11.wp Try.prog Q ⟨(List.map f (List.range 62)).toArray, []⟩ x := by
  simp only [List.range, List.range.loop, List.map_cons, List.map_nil, h7, h13, h9, h14, h15]
  simp only [rS11, rT11, rT9, rBl, rL, rT3, rT2, rB0, Try.f7, Option.getD_some]
  go_wp2_with fail
  exact hQ _ (by simp) (fun j hj => by
    match j, hj with
    | 0, _ | 1, _ | 2, _ | 3, _ | 4, _ | 5, _ | 6, _ | 7, _ | 8, _ | 9, _ | 10, _ | 11, _ | 12, _ | 13, _ | 14, _ | 15, _ => simp [h7, h13, h9, h14, h15]
    | j + 16, h => exact absurd h (by omega)) (by simp)
noncomputable def dB : Code := Try.f42.body.getD .skip
noncomputable def dH : Code := match dB with | .seq _ (.block _ (.seq _ (.cond _ _ (.seq _ (.cond _ _ (.seq _ (.cond _ _ (.seq _ (.cond _ _ (.seq _ (.cond _ x _)))))))))))  => x | _ => .skip
noncomputable def dR10 : Code := match dH with | .seq x _ => x | _ => .skip
noncomputable def dR11 : Code := match dH with | .seq _ (.seq x _) => x | _ => .skip
noncomputable def dR12 : Code := match dH with | .seq _ (.seq _ x) => x | _ => .skip
noncomputable def xdR10 : Code := dR10
noncomputable def xdR11 : Code := dR11
theorem dH_parts : dH = .seq dR10 (.seq dR11 dR12) := by kernel_rfl
noncomputable def dBx (H : Code) : Code := match dB with
  | .seq a (.block i (.seq b1 (.cond c1 y1 (.seq b2 (.cond c2 y2 (.seq b3 (.cond c3 y3 (.seq b4 (.cond c4 y4 (.seq b5 (.cond c5 _ y5))))))))))) => .seq a (.block i (.seq b1 (.cond c1 y1 (.seq b2 (.cond c2 y2 (.seq b3 (.cond c3 y3 (.seq b4 (.cond c4 y4 (.seq b5 (.cond c5 H y5)))))))))))
  | _ => .skip
theorem dB_parts : dB = dBx dH := by kernel_rfl
set_option maxRecDepth 100000 in
set_option maxHeartbeats 2000000 in
theorem told_wp {T : Array Value} {x : World} {bb n : Nat} {t k s p q : Int} {mv : Value} {xs : List Value} {Q : Exit → Act → World → Prop} (hs : T.size = 54) (t1 : T[1]? = some (.int .i64 t)) (t3 : T[3]? = some (.pointer (some ⟨bb, 0, none⟩))) (t8 : T[8]? = some (.int .i64 k)) (t9 : T[9]? = some (.int .i64 s)) (t10 : T[10]? = some (.int .i64 p)) (t11 : T[11]? = some (.int .i64 q))
    (c3 : x.heap[bb]? = some (.cells #[mv] 63)) (ho : x.ownsRow (bb + 1) 117 5 mv n xs) (n3 : mv.ownBlock ≠ some bb) (hn : n ≤ 1000000000000)
    (hQ : ∀ T' x', T'.size = 54 → Told1 bb mv (xs ++ tldV (t, k, s, p, q)) (n + 1) x x' → Q .normal ⟨T', []⟩ x') : dR12.wp Try.prog Q ⟨T, []⟩ x := by
  obtain ⟨i0, hinf, hz0, hz1, hz2⟩ := info117
  obtain ⟨f, rfl, fz⟩ := arrfv T hs
  have e1 := fz 1 _ t1
  have e3 := fz 3 _ t3
  have e8 := fz 8 _ t8
  have e9 := fz 9 _ t9
  have e10 := fz 10 _ t10
  have e11 := fz 11 _ t11
  clear fz t1 t3 t8 t9 t10 t11 hs
  have hl := (Array.getElem?_eq_some_iff.1 c3).1
  have c3' : x.cell? ⟨bb, 0, none⟩ = some mv := obj_cell c3 rfl
  have wn := World.new_ne x _ c3'
  obtain ⟨w1, hw1⟩ : ∃ w1, w1 = x.alloc (.cells #[.int .i64 t, .int .i64 k, .int .i64 s, .int .i64 p, .int .i64 q] 117) := ⟨_, rfl⟩
  have ho1 : w1.ownsRow (bb + 1) 117 5 mv n xs := by rw [hw1]; exact ho.alloc _
  have s1 : w1.heap.size = x.heap.size + 1 := by rw [hw1, alloc_size]
  have hnews : ∀ j u, (tldV (t, k, s, p, q))[j]? = some u → w1.cell? ((⟨x.heap.size, 0, none⟩ : Addr).add j) = some u := by
    rw [hw1]
    exact World.news_of_block (cs := #[.int .i64 t, .int .i64 k, .int .i64 s, .int .i64 p, .int .i64 q]) (heap_alloc_new _ _)
  have c1 : w1.heap[bb]? = some (.cells #[mv] 63) := by rw [hw1]; exact (alloc_old hl).trans c3
  replace hQ := Lib.hid hQ
  replace hw1 := Lib.hid hw1
  replace c3 := Lib.hid c3
  replace c1 := Lib.hid c1
  simp only [List.range, List.range.loop, List.map_cons, List.map_nil, e1, e3, e8, e9, e10, e11]
  simp only [dR12, dH, dB, Try.f42, Option.getD_some]
  go_wp2_with (at_builtin; rw [← hw1.out]; refine wpList_append_lies _ rfl _ _ _ rfl (bb + 1) 117 i0 _ 5 40 Try.underlying58 hinf hz0 hz1 hz2 rfl (by decide) mv n xs (by rfl) ho1 ⟨x.heap.size, 0, none⟩ 1 1 (tldV (t, k, s, p, q)) (by rfl) (by rfl) hnews (by simp [tldV, Value.oneCell']) (by omega) (by unfold maxLen; omega) (by omega) (by omega) _ rfl ?_; intro gg cp w4 ho4 hgrow hat hlt4; have hb4 := (hgrow.block bb (by omega) (Ne.symm n3)).trans c1.out; have hc4 : w4.cell? ⟨bb, 0, none⟩ = some mv := obj_cell hb4 (o := 0) rfl; have hf4 := obj_thaw hb4 0)
  have hfin : Told1 bb mv (xs ++ tldV (t, k, s, p, q)) (n + 1) x (w4.setCell ⟨bb, 0, none⟩ (.slice (some ⟨gg, 0, none⟩) (n + 1) cp)) := by
    have hg2 : gg ≠ bb := fun e => by
      rcases hat with z | z
      · exact n3 (by rw [z, e])
      · omega
    refine ⟨?_, fun c hc h1 h2 => ?_, ⟨_, heap_set (a := ⟨bb, 0, none⟩) (w := w4) rfl hb4, ?_, fun g hg => ?_⟩⟩
    · have := hgrow.size
      simp [World.setCell]
      omega
    · rw [heap_setCell_ne (a := ⟨bb, 0, none⟩) (b := c) (Ne.symm h1), hgrow.block c (by omega) (Ne.symm h2), hw1.out]
      exact alloc_old hc
    · refine ownsRow_setCell_other ho4 (fun e => ?_) _
      exact hg2 (by simpa [Value.ownBlock] using e)
    · have hg3 : gg = g := by simpa [Value.ownBlock] using hg
      subst hg3
      rcases hat with z | z
      · exact .inl z
      · exact .inr (by omega)
  replace hfin := Lib.hid hfin
  replace hb4 := Lib.hid hb4
  clear ho4 hgrow hnews ho1
  try go_wp2
  exact hQ.out _ _ (by simp) hfin.out
section
variable {h rb bb : Nat} {home : Goroutine → Prop} {k : Int} {th : Th} {F : Machine → Trace → Prop} {E : Env} {w : World} {s : RSt} {K : Nat → Obj → Prop} {L : List RT} {tl : Tl3} {b₀ : Frame} {a₀ : Act} {ops₀ : Array Oper} {i₀ : Nat} {rest₀ : List Nat} {k₀ : List Item} {cl : List Frame} {tv : Int}
set_option maxRecDepth 100000 in
set_option maxHeartbeats 2000000 in
theorem does_step (hc : ∀ (a₁ : Act) (ops : Array Oper) (i' : Nat) (rest' : List Nat) (k' : List Item), a₁.defers = [] →
      (∀ (F' : Machine → Trace → Prop) (E2 : Env) (w2 : World), HG Try.prog th.j F' E2 (G (b₀.at (a₀.put ((ops₀[i₀]?).bind (·.dst)) (.tuple #[])) (.inRegion ops₀ rest₀ :: k₀)) cl) w2 → HG Try.prog th.j F' E2 (G ((base 42).at (a₁.put ((ops[i']?).bind (·.dst)) (.tuple #[])) (.inRegion ops rest' :: k')) (b₀.at a₀ (.inRegion ops₀ (i₀ :: rest₀) :: k₀) :: cl)) w2) →
      HGn Try.prog th.j F E w 100 (entry 33 Try.f33 #[.pointer (some ⟨th.gb, 0, none⟩)] ((base 42).at a₁ (.inRegion ops (i' :: rest') :: k') :: b₀.at a₀ (.inRegion ops₀ (i₀ :: rest₀) :: k₀) :: cl))) :
    HGn Try.prog th.j F E w 200 (entry 42 Try.f42 #[.pointer (some ⟨th.gb, 0, none⟩), .int .i64 tv, .int .i64 1, .pointer (some ⟨bb, 0, none⟩)] (b₀.at a₀ (.inRegion ops₀ (i₀ :: rest₀) :: k₀) :: cl)) := by
  replace hc := Lib.hid hc
  unfold entry
  rw [show Try.f42.body.getD .skip = dBx dH from dB_parts, show Try.f42.ntmps = 54 from rfl]
  generalize dH = LH
  simp only [dBx, dB, Try.f42, Option.getD_some]
  walk_nrm
  refine Idl.q (idl_hg Try.prog th.j F E w) (Idl.rg (idl_hg Try.prog th.j F E w) [0] rfl ?_)
  apply Idl.value (idl_hg Try.prog th.j F E w) rfl rfl (by first | decide | exact base_kind _ | exact baseD_kind _ | assumption)
  focus (intro w; go_simp; (try w_num); first | done | rfl)
  focus (intro w; simp [go_sem, *])
  walk_nrm
  refine Idl.re (idl_hg Try.prog th.j F E w) (Idl.bl (idl_hg Try.prog th.j F E w) (Idl.q (idl_hg Try.prog th.j F E w) (Idl.rg (idl_hg Try.prog th.j F E w) [0, 1] rfl ?_)))
  iterate 2 (apply Idl.value (idl_hg Try.prog th.j F E w) rfl rfl (by first | decide | exact base_kind _ | exact baseD_kind _ | assumption); (focus (intro w; go_simp; (try w_num); first | done | rfl)); (focus (intro w; simp [go_sem, *])); walk_nrm)
  refine Idl.re (idl_hg Try.prog th.j F E w) (Idl.ct (idl_hg Try.prog th.j F E w) rfl (Idl.rg (idl_hg Try.prog th.j F E w) [0, 1] rfl ?_))
  apply Idl.value (idl_hg Try.prog th.j F E w) rfl rfl (by first | decide | exact base_kind _ | exact baseD_kind _ | assumption)
  focus (intro w; go_simp; (try w_num); first | done | rfl)
  focus (intro w; simp [go_sem, *])
  walk_nrm
  refine Idl.callE (fn := Try.f33) (vs := #[.pointer (some ⟨th.gb, 0, none⟩)]) (idl_hg Try.prog th.j F E w) rfl rfl (by k_ne) rfl Try.func33 rfl rfl (by simp [Act.eval]) ?_
  refine hc.out _ _ _ _ _ rfl (fun F' E2 w2 hh => ?_)
  replace hh := Lib.hid hh
  clear hc
  change HGn Try.prog th.j F' E2 w2 100 _
  walk_nrm
  refine Idl.re (idl_hg Try.prog th.j F' E2 w2) (Idl.ib (idl_hg Try.prog th.j F' E2 w2) (Idl.en (idl_hg Try.prog th.j F' E2 w2) ?_))
  refine Idl.leave0 (n := 1) (idl_hg Try.prog th.j F' E2 w2) rfl rfl Try.func42 rfl ?_
  exact hh.out
set_option maxRecDepth 100000 in
set_option maxHeartbeats 2000000 in
theorem does_begin (T : TKn h rb home k th E w) (g : GA w rb th false false tl) (M : RunM bb K L s E w)
    (hc : ∀ E' w', Kept th.j (some th.gb) E w E' w' → TKn h rb home k th E' w' → GA w' rb th false false (0, 0, 0) → RunM bb K L s E' w' → HG Try.prog th.j F E' (G (b₀.at (a₀.put ((ops₀[i₀]?).bind (·.dst)) (.tuple #[])) (.inRegion ops₀ rest₀ :: k₀)) cl) w') :
    HGn Try.prog th.j F E w 200 (entry 42 Try.f42 #[.pointer (some ⟨th.gb, 0, none⟩), .int .i64 tv, .int .i64 2, .pointer (some ⟨bb, 0, none⟩)] (b₀.at a₀ (.inRegion ops₀ (i₀ :: rest₀) :: k₀) :: cl)) := by
  have key : ∀ {b₁ : Frame} {a₁ : Act} {ops₁ : Array Oper} {i₁ : Nat} {rest₁ : List Nat} {k₁ : List Item} {cl₁ : List Frame}, (∀ w', Kept th.j (some th.gb) E w E w' → TKn h rb home k th E w' → GA w' rb th false false (0, 0, 0) → RunM bb K L s E w' → HG Try.prog th.j F E (G (b₁.at (a₁.put ((ops₁[i₁]?).bind (·.dst)) (.tuple #[])) (.inRegion ops₁ rest₁ :: k₁)) cl₁) w') →
      HGn Try.prog th.j F E w 100 (entry 34 Try.f34 #[.pointer (some ⟨th.gb, 0, none⟩)] (b₁.at a₁ (.inRegion ops₁ (i₁ :: rest₁) :: k₁) :: cl₁)) := fun hh => by
    obtain ⟨t1, t2, t3⟩ := tl
    exact begin_own (D := runD bb K L) T g M hh
  clear T g M
  replace hc := Lib.hid hc
  replace key := @Lib.hid _ @key
  unfold entry
  rw [show Try.f42.body.getD .skip = dBx dH from dB_parts, show Try.f42.ntmps = 54 from rfl]
  generalize dH = LH
  simp only [dBx, dB, Try.f42, Option.getD_some]
  walk_nrm
  refine Idl.q (idl_hg Try.prog th.j F E w) (Idl.rg (idl_hg Try.prog th.j F E w) [0] rfl ?_)
  apply Idl.value (idl_hg Try.prog th.j F E w) rfl rfl (by first | decide | exact base_kind _ | exact baseD_kind _ | assumption)
  focus (intro w; go_simp; (try w_num); first | done | rfl)
  focus (intro w; simp [go_sem, *])
  walk_nrm
  refine Idl.re (idl_hg Try.prog th.j F E w) (Idl.bl (idl_hg Try.prog th.j F E w) (Idl.q (idl_hg Try.prog th.j F E w) (Idl.rg (idl_hg Try.prog th.j F E w) [0, 1] rfl ?_)))
  iterate 2 (apply Idl.value (idl_hg Try.prog th.j F E w) rfl rfl (by first | decide | exact base_kind _ | exact baseD_kind _ | assumption); (focus (intro w; go_simp; (try w_num); first | done | rfl)); (focus (intro w; simp [go_sem, *])); walk_nrm)
  refine Idl.re (idl_hg Try.prog th.j F E w) (Idl.cf (idl_hg Try.prog th.j F E w) rfl (Idl.q (idl_hg Try.prog th.j F E w) (Idl.rg (idl_hg Try.prog th.j F E w) [0, 1] rfl ?_)))
  iterate 2 (apply Idl.value (idl_hg Try.prog th.j F E w) rfl rfl (by first | decide | exact base_kind _ | exact baseD_kind _ | assumption); (focus (intro w; go_simp; (try w_num); first | done | rfl)); (focus (intro w; simp [go_sem, *])); walk_nrm)
  refine Idl.re (idl_hg Try.prog th.j F E w) (Idl.ct (idl_hg Try.prog th.j F E w) rfl (Idl.rg (idl_hg Try.prog th.j F E w) [0, 1] rfl ?_))
  apply Idl.value (idl_hg Try.prog th.j F E w) rfl rfl (by first | decide | exact base_kind _ | exact baseD_kind _ | assumption)
  focus (intro w; go_simp; (try w_num); first | done | rfl)
  focus (intro w; simp [go_sem, *])
  walk_nrm
  refine Idl.callE (fn := Try.f34) (vs := #[.pointer (some ⟨th.gb, 0, none⟩)]) (idl_hg Try.prog th.j F E w) rfl rfl (by k_ne) rfl Try.func34 rfl rfl (by simp [Act.eval]) ?_
  refine key.out (fun w' k1 t1 g1 m1 => ?_)
  replace k1 := Lib.hid k1
  replace t1 := Lib.hid t1
  replace g1 := Lib.hid g1
  replace m1 := Lib.hid m1
  clear key
  change HGn Try.prog th.j F E w' 100 _
  walk_nrm
  refine Idl.re (idl_hg Try.prog th.j F E w') (Idl.ib (idl_hg Try.prog th.j F E w') (Idl.en (idl_hg Try.prog th.j F E w') ?_))
  refine Idl.leave0 (n := 1) (idl_hg Try.prog th.j F E w') rfl rfl Try.func42 rfl ?_
  exact hc.out E w' k1.out t1.out g1.out m1.out
set_option maxRecDepth 100000 in
set_option maxHeartbeats 2000000 in
theorem does_poll (T : TKn h rb home k th E w) (g : GA w rb th false false tl) (M : RunM bb K L s E w)
    (hc : ∀ E' w', Kept th.j (some th.gb) E w E' w' → TKn h rb home k th E' w' → GA w' rb th false false (tl.1, IntKind.i64.wrap (tl.2.1 + 1), tl.2.2) → RunM bb K L s E' w' → HG Try.prog th.j F E' (G (b₀.at (a₀.put ((ops₀[i₀]?).bind (·.dst)) (.tuple #[])) (.inRegion ops₀ rest₀ :: k₀)) cl) w') :
    HGn Try.prog th.j F E w 200 (entry 42 Try.f42 #[.pointer (some ⟨th.gb, 0, none⟩), .int .i64 tv, .int .i64 3, .pointer (some ⟨bb, 0, none⟩)] (b₀.at a₀ (.inRegion ops₀ (i₀ :: rest₀) :: k₀) :: cl)) := by
  have key : ∀ {b₁ : Frame} {a₁ : Act} {ops₁ : Array Oper} {i₁ : Nat} {rest₁ : List Nat} {k₁ : List Item} {cl₁ : List Frame}, (∀ w', Kept th.j (some th.gb) E w E w' → TKn h rb home k th E w' → GA w' rb th false false (tl.1, IntKind.i64.wrap (tl.2.1 + 1), tl.2.2) → RunM bb K L s E w' → HG Try.prog th.j F E (G (b₁.at (a₁.put ((ops₁[i₁]?).bind (·.dst)) (.tuple #[])) (.inRegion ops₁ rest₁ :: k₁)) cl₁) w') →
      HGn Try.prog th.j F E w 100 (entry 35 Try.f35 #[.pointer (some ⟨th.gb, 0, none⟩)] (b₁.at a₁ (.inRegion ops₁ (i₁ :: rest₁) :: k₁) :: cl₁)) := fun hh => by
    obtain ⟨t1, t2, t3⟩ := tl
    exact poll_own (D := runD bb K L) T g M hh
  clear T g M
  replace hc := Lib.hid hc
  replace key := @Lib.hid _ @key
  unfold entry
  rw [show Try.f42.body.getD .skip = dBx dH from dB_parts, show Try.f42.ntmps = 54 from rfl]
  generalize dH = LH
  simp only [dBx, dB, Try.f42, Option.getD_some]
  walk_nrm
  refine Idl.q (idl_hg Try.prog th.j F E w) (Idl.rg (idl_hg Try.prog th.j F E w) [0] rfl ?_)
  apply Idl.value (idl_hg Try.prog th.j F E w) rfl rfl (by first | decide | exact base_kind _ | exact baseD_kind _ | assumption)
  focus (intro w; go_simp; (try w_num); first | done | rfl)
  focus (intro w; simp [go_sem, *])
  walk_nrm
  refine Idl.re (idl_hg Try.prog th.j F E w) (Idl.bl (idl_hg Try.prog th.j F E w) (Idl.q (idl_hg Try.prog th.j F E w) (Idl.rg (idl_hg Try.prog th.j F E w) [0, 1] rfl ?_)))
  iterate 2 (apply Idl.value (idl_hg Try.prog th.j F E w) rfl rfl (by first | decide | exact base_kind _ | exact baseD_kind _ | assumption); (focus (intro w; go_simp; (try w_num); first | done | rfl)); (focus (intro w; simp [go_sem, *])); walk_nrm)
  refine Idl.re (idl_hg Try.prog th.j F E w) (Idl.cf (idl_hg Try.prog th.j F E w) rfl (Idl.q (idl_hg Try.prog th.j F E w) (Idl.rg (idl_hg Try.prog th.j F E w) [0, 1] rfl ?_)))
  iterate 2 (apply Idl.value (idl_hg Try.prog th.j F E w) rfl rfl (by first | decide | exact base_kind _ | exact baseD_kind _ | assumption); (focus (intro w; go_simp; (try w_num); first | done | rfl)); (focus (intro w; simp [go_sem, *])); walk_nrm)
  refine Idl.re (idl_hg Try.prog th.j F E w) (Idl.cf (idl_hg Try.prog th.j F E w) rfl (Idl.q (idl_hg Try.prog th.j F E w) (Idl.rg (idl_hg Try.prog th.j F E w) [0, 1] rfl ?_)))
  iterate 2 (apply Idl.value (idl_hg Try.prog th.j F E w) rfl rfl (by first | decide | exact base_kind _ | exact baseD_kind _ | assumption); (focus (intro w; go_simp; (try w_num); first | done | rfl)); (focus (intro w; simp [go_sem, *])); walk_nrm)
  refine Idl.re (idl_hg Try.prog th.j F E w) (Idl.ct (idl_hg Try.prog th.j F E w) rfl (Idl.rg (idl_hg Try.prog th.j F E w) [0, 1] rfl ?_))
  apply Idl.value (idl_hg Try.prog th.j F E w) rfl rfl (by first | decide | exact base_kind _ | exact baseD_kind _ | assumption)
  focus (intro w; go_simp; (try w_num); first | done | rfl)
  focus (intro w; simp [go_sem, *])
  walk_nrm
  refine Idl.callE (fn := Try.f35) (vs := #[.pointer (some ⟨th.gb, 0, none⟩)]) (idl_hg Try.prog th.j F E w) rfl rfl (by k_ne) rfl Try.func35 rfl rfl (by simp [Act.eval]) ?_
  refine key.out (fun w' k1 t1 g1 m1 => ?_)
  replace k1 := Lib.hid k1
  replace t1 := Lib.hid t1
  replace g1 := Lib.hid g1
  replace m1 := Lib.hid m1
  clear key
  change HGn Try.prog th.j F E w' 100 _
  walk_nrm
  refine Idl.re (idl_hg Try.prog th.j F E w') (Idl.ib (idl_hg Try.prog th.j F E w') (Idl.en (idl_hg Try.prog th.j F E w') ?_))
  refine Idl.leave0 (n := 1) (idl_hg Try.prog th.j F E w') rfl rfl Try.func42 rfl ?_
  exact hc.out E w' k1.out t1.out g1.out m1.out
set_option maxRecDepth 100000 in
set_option maxHeartbeats 2000000 in
theorem does_point (T : TKn h rb home k th E w) (g : GA w rb th false false tl) (M : RunM bb K L s E w)
    (hc : ∀ E' w', Kept th.j (some th.gb) E w E' w' → TKn h rb home k th E' w' → GA w' rb th false false (tl.1, tl.2.1, k) → RunM bb K L s E' w' → HG Try.prog th.j F E' (G (b₀.at (a₀.put ((ops₀[i₀]?).bind (·.dst)) (.tuple #[])) (.inRegion ops₀ rest₀ :: k₀)) cl) w') :
    HGn Try.prog th.j F E w 200 (entry 42 Try.f42 #[.pointer (some ⟨th.gb, 0, none⟩), .int .i64 tv, .int .i64 4, .pointer (some ⟨bb, 0, none⟩)] (b₀.at a₀ (.inRegion ops₀ (i₀ :: rest₀) :: k₀) :: cl)) := by
  have key : ∀ {b₁ : Frame} {a₁ : Act} {ops₁ : Array Oper} {i₁ : Nat} {rest₁ : List Nat} {k₁ : List Item} {cl₁ : List Frame}, (∀ w', Kept th.j (some th.gb) E w E w' → TKn h rb home k th E w' → GA w' rb th false false (tl.1, tl.2.1, k) → RunM bb K L s E w' → HG Try.prog th.j F E (G (b₁.at (a₁.put ((ops₁[i₁]?).bind (·.dst)) (.tuple #[])) (.inRegion ops₁ rest₁ :: k₁)) cl₁) w') →
      HGn Try.prog th.j F E w 100 (entry 36 Try.f36 #[.pointer (some ⟨th.gb, 0, none⟩)] (b₁.at a₁ (.inRegion ops₁ (i₁ :: rest₁) :: k₁) :: cl₁)) := fun hh => by
    obtain ⟨t1, t2, t3⟩ := tl
    exact point_own (D := runD bb K L) T g M hh
  clear T g M
  replace hc := Lib.hid hc
  replace key := @Lib.hid _ @key
  unfold entry
  rw [show Try.f42.body.getD .skip = dBx dH from dB_parts, show Try.f42.ntmps = 54 from rfl]
  generalize dH = LH
  simp only [dBx, dB, Try.f42, Option.getD_some]
  walk_nrm
  refine Idl.q (idl_hg Try.prog th.j F E w) (Idl.rg (idl_hg Try.prog th.j F E w) [0] rfl ?_)
  apply Idl.value (idl_hg Try.prog th.j F E w) rfl rfl (by first | decide | exact base_kind _ | exact baseD_kind _ | assumption)
  focus (intro w; go_simp; (try w_num); first | done | rfl)
  focus (intro w; simp [go_sem, *])
  walk_nrm
  refine Idl.re (idl_hg Try.prog th.j F E w) (Idl.bl (idl_hg Try.prog th.j F E w) (Idl.q (idl_hg Try.prog th.j F E w) (Idl.rg (idl_hg Try.prog th.j F E w) [0, 1] rfl ?_)))
  iterate 2 (apply Idl.value (idl_hg Try.prog th.j F E w) rfl rfl (by first | decide | exact base_kind _ | exact baseD_kind _ | assumption); (focus (intro w; go_simp; (try w_num); first | done | rfl)); (focus (intro w; simp [go_sem, *])); walk_nrm)
  refine Idl.re (idl_hg Try.prog th.j F E w) (Idl.cf (idl_hg Try.prog th.j F E w) rfl (Idl.q (idl_hg Try.prog th.j F E w) (Idl.rg (idl_hg Try.prog th.j F E w) [0, 1] rfl ?_)))
  iterate 2 (apply Idl.value (idl_hg Try.prog th.j F E w) rfl rfl (by first | decide | exact base_kind _ | exact baseD_kind _ | assumption); (focus (intro w; go_simp; (try w_num); first | done | rfl)); (focus (intro w; simp [go_sem, *])); walk_nrm)
  refine Idl.re (idl_hg Try.prog th.j F E w) (Idl.cf (idl_hg Try.prog th.j F E w) rfl (Idl.q (idl_hg Try.prog th.j F E w) (Idl.rg (idl_hg Try.prog th.j F E w) [0, 1] rfl ?_)))
  iterate 2 (apply Idl.value (idl_hg Try.prog th.j F E w) rfl rfl (by first | decide | exact base_kind _ | exact baseD_kind _ | assumption); (focus (intro w; go_simp; (try w_num); first | done | rfl)); (focus (intro w; simp [go_sem, *])); walk_nrm)
  refine Idl.re (idl_hg Try.prog th.j F E w) (Idl.cf (idl_hg Try.prog th.j F E w) rfl (Idl.q (idl_hg Try.prog th.j F E w) (Idl.rg (idl_hg Try.prog th.j F E w) [0, 1] rfl ?_)))
  iterate 2 (apply Idl.value (idl_hg Try.prog th.j F E w) rfl rfl (by first | decide | exact base_kind _ | exact baseD_kind _ | assumption); (focus (intro w; go_simp; (try w_num); first | done | rfl)); (focus (intro w; simp [go_sem, *])); walk_nrm)
  refine Idl.re (idl_hg Try.prog th.j F E w) (Idl.ct (idl_hg Try.prog th.j F E w) rfl (Idl.rg (idl_hg Try.prog th.j F E w) [0, 1] rfl ?_))
  apply Idl.value (idl_hg Try.prog th.j F E w) rfl rfl (by first | decide | exact base_kind _ | exact baseD_kind _ | assumption)
  focus (intro w; go_simp; (try w_num); first | done | rfl)
  focus (intro w; simp [go_sem, *])
  walk_nrm
  refine Idl.callE (fn := Try.f36) (vs := #[.pointer (some ⟨th.gb, 0, none⟩)]) (idl_hg Try.prog th.j F E w) rfl rfl (by k_ne) rfl Try.func36 rfl rfl (by simp [Act.eval]) ?_
  refine key.out (fun w' k1 t1 g1 m1 => ?_)
  replace k1 := Lib.hid k1
  replace t1 := Lib.hid t1
  replace g1 := Lib.hid g1
  replace m1 := Lib.hid m1
  clear key
  change HGn Try.prog th.j F E w' 100 _
  walk_nrm
  refine Idl.re (idl_hg Try.prog th.j F E w') (Idl.ib (idl_hg Try.prog th.j F E w') (Idl.en (idl_hg Try.prog th.j F E w') ?_))
  refine Idl.leave0 (n := 1) (idl_hg Try.prog th.j F E w') rfl rfl Try.func42 rfl ?_
  exact hc.out E w' k1.out t1.out g1.out m1.out
set_option maxRecDepth 100000 in
set_option maxHeartbeats 2000000 in
theorem does_other {c : Int} (h1 : c ≠ 1) (h2 : c ≠ 2) (h3 : c ≠ 3) (h4 : c ≠ 4) (h5 : c ≠ 5) (hc : HG Try.prog th.j F E (G (b₀.at (a₀.put ((ops₀[i₀]?).bind (·.dst)) (.tuple #[])) (.inRegion ops₀ rest₀ :: k₀)) cl) w) :
    HGn Try.prog th.j F E w 200 (entry 42 Try.f42 #[.pointer (some ⟨th.gb, 0, none⟩), .int .i64 tv, .int .i64 c, .pointer (some ⟨bb, 0, none⟩)] (b₀.at a₀ (.inRegion ops₀ (i₀ :: rest₀) :: k₀) :: cl)) := by
  have q1 : (c == 1) = false := beq_eq_false_iff_ne.2 h1
  have q2 : (c == 2) = false := beq_eq_false_iff_ne.2 h2
  have q3 : (c == 3) = false := beq_eq_false_iff_ne.2 h3
  have q4 : (c == 4) = false := beq_eq_false_iff_ne.2 h4
  have q5 : (c == 5) = false := beq_eq_false_iff_ne.2 h5
  clear h1 h2 h3 h4 h5
  replace hc := Lib.hid hc
  unfold entry
  rw [show Try.f42.body.getD .skip = dBx dH from dB_parts, show Try.f42.ntmps = 54 from rfl]
  generalize dH = LH
  simp only [dBx, dB, Try.f42, Option.getD_some]
  walk_nrm
  refine Idl.q (idl_hg Try.prog th.j F E w) (Idl.rg (idl_hg Try.prog th.j F E w) [0] rfl ?_)
  apply Idl.value (idl_hg Try.prog th.j F E w) rfl rfl (by first | decide | exact base_kind _ | exact baseD_kind _ | assumption)
  focus (intro w; go_simp; (try w_num); first | done | rfl)
  focus (intro w; simp [go_sem, *])
  walk_nrm
  refine Idl.re (idl_hg Try.prog th.j F E w) (Idl.bl (idl_hg Try.prog th.j F E w) (Idl.q (idl_hg Try.prog th.j F E w) (Idl.rg (idl_hg Try.prog th.j F E w) [0, 1] rfl ?_)))
  iterate 2 (apply Idl.value (idl_hg Try.prog th.j F E w) rfl rfl (by first | decide | exact base_kind _ | exact baseD_kind _ | assumption); (focus (intro w; go_simp; (try w_num); first | done | rfl)); (focus (intro w; simp [go_sem, *])); walk_nrm)
  refine Idl.re (idl_hg Try.prog th.j F E w) (Idl.cf (idl_hg Try.prog th.j F E w) rfl (Idl.q (idl_hg Try.prog th.j F E w) (Idl.rg (idl_hg Try.prog th.j F E w) [0, 1] rfl ?_)))
  iterate 2 (apply Idl.value (idl_hg Try.prog th.j F E w) rfl rfl (by first | decide | exact base_kind _ | exact baseD_kind _ | assumption); (focus (intro w; go_simp; (try w_num); first | done | rfl)); (focus (intro w; simp [go_sem, *])); walk_nrm)
  refine Idl.re (idl_hg Try.prog th.j F E w) (Idl.cf (idl_hg Try.prog th.j F E w) rfl (Idl.q (idl_hg Try.prog th.j F E w) (Idl.rg (idl_hg Try.prog th.j F E w) [0, 1] rfl ?_)))
  iterate 2 (apply Idl.value (idl_hg Try.prog th.j F E w) rfl rfl (by first | decide | exact base_kind _ | exact baseD_kind _ | assumption); (focus (intro w; go_simp; (try w_num); first | done | rfl)); (focus (intro w; simp [go_sem, *])); walk_nrm)
  refine Idl.re (idl_hg Try.prog th.j F E w) (Idl.cf (idl_hg Try.prog th.j F E w) rfl (Idl.q (idl_hg Try.prog th.j F E w) (Idl.rg (idl_hg Try.prog th.j F E w) [0, 1] rfl ?_)))
  iterate 2 (apply Idl.value (idl_hg Try.prog th.j F E w) rfl rfl (by first | decide | exact base_kind _ | exact baseD_kind _ | assumption); (focus (intro w; go_simp; (try w_num); first | done | rfl)); (focus (intro w; simp [go_sem, *])); walk_nrm)
  refine Idl.re (idl_hg Try.prog th.j F E w) (Idl.cf (idl_hg Try.prog th.j F E w) rfl (Idl.q (idl_hg Try.prog th.j F E w) (Idl.rg (idl_hg Try.prog th.j F E w) [0, 1] rfl ?_)))
  iterate 2 (apply Idl.value (idl_hg Try.prog th.j F E w) rfl rfl (by first | decide | exact base_kind _ | exact baseD_kind _ | assumption); (focus (intro w; go_simp; (try w_num); first | done | rfl)); (focus (intro w; simp [go_sem, *])); walk_nrm)
  refine Idl.re (idl_hg Try.prog th.j F E w) (Idl.cf (idl_hg Try.prog th.j F E w) rfl (Idl.sk (idl_hg Try.prog th.j F E w) (Idl.ib (idl_hg Try.prog th.j F E w) (Idl.en (idl_hg Try.prog th.j F E w) ?_))))
  refine Idl.leave0 (n := 1) (idl_hg Try.prog th.j F E w) rfl rfl Try.func42 rfl ?_
  exact hc.out
set_option maxRecDepth 100000 in
set_option maxHeartbeats 2000000 in
theorem does_tell {t i : Nat} (htv : tv = (t : Int)) (T : TKn h rb home k th E w) (g : GA w rb th false false tl) (M : RunM bb K L s E w) (hi : s.cnt t = i) (hl : i < (opsR L t).length) (ht : t < L.length) (hbound : sumTo L.length (fun t => (opsR L t).length) ≤ 1000000000000)
    (hc : ∀ E' w', Kept th.j (some th.gb) E w E' w' → TKn h rb home k th E' w' → GA w' rb th false false tl → RunM bb K L ⟨s.told ++ [((t : Int), k, tl.1, tl.2.1, tl.2.2)], upd s.cnt t (i + 1)⟩ E' w' → HG Try.prog th.j F E' (G (b₀.at (a₀.put ((ops₀[i₀]?).bind (·.dst)) (.tuple #[])) (.inRegion ops₀ rest₀ :: k₀)) cl) w') :
    HGn Try.prog th.j F E w 200 (entry 42 Try.f42 #[.pointer (some ⟨th.gb, 0, none⟩), .int .i64 tv, .int .i64 5, .pointer (some ⟨bb, 0, none⟩)] (b₀.at a₀ (.inRegion ops₀ (i₀ :: rest₀) :: k₀) :: cl)) := by
  subst htv
  obtain ⟨st, po, pt⟩ := tl
  have P3 : ∀ T' : Array Value, T'.size = 54 → T'[1]? = some (.int .i64 (t : Int)) → T'[3]? = some (.pointer (some ⟨bb, 0, none⟩)) → T'[8]? = some (.int .i64 k) → T'[9]? = some (.int .i64 st) → T'[10]? = some (.int .i64 po) → T'[11]? = some (.int .i64 pt) → ∀ E1 w1, Kept th.j (some th.gb) E w E1 w1 → TKn h rb home k th E1 w1 → GA w1 rb th false false (st, po, pt) → RunM bb K L s E1 w1 →
      HGn Try.prog th.j F E1 w1 100 (G ((base 42).at ⟨T', []⟩ [.code dR12, .inBlock 0]) (b₀.at a₀ (.inRegion ops₀ (i₀ :: rest₀) :: k₀) :: cl)) := by
    intro T' h1 h2 h3 h4 h5 h6 h7 E1 w1 k1 T1 g1 M1
    obtain ⟨mv, r1, r2, r3⟩ := M1.row
    have hlen : s.told.length ≤ 1000000000000 := Nat.le_trans M1.len (Nat.le_trans (sumTo_le L.length M1.cnt) hbound)
    have hne : mv.ownBlock ≠ some bb := fun e => by have := (r2.lt bb e).1; omega
    refine HG.quietS (fun c => c = bb ∨ mv.ownBlock = some c) (fun c e => e.elim (fun e => by rw [e]; exact M1.bbH) (fun e => (r3 c e).1)) (closed_none _) (Q := fun a' x x' => a'.tmps.size = 54 ∧ Told1 bb mv (tldsV s.told ++ tldV ((t : Int), k, st, po, pt)) (s.told.length + 1) x x') (by kernel_rfl) (by rfl) rfl (fun x hxs hx => ?_) (fun E2 w2 a' x x' hE hd hxs hx hxs' hx' hK hB hSt hq => ?_)
    · refine told_wp (bb := bb) (mv := mv) (n := s.told.length) (xs := tldsV s.told) h1 h2 h3 h4 h5 h6 h7 ((hx bb M1.bbH).trans r1) (ownsRow_same r2 (fun g hg => hx g (r3 g hg).1)) hne hlen (fun T2 x' a1 a2 => ⟨rfl, rfl, fun b hb hn => a2.old b hb (fun e => hn (.inl e)) (fun e => hn (.inr e)), a1, a2⟩)
    · obtain ⟨Ta, df⟩ := a'
      have hdf : df = [] := hd
      subst hdf
      obtain ⟨q1, q2⟩ := hq
      have hS := M1.step hi hl ht (tl := s.told) rfl
      have M2 : RunM bb K L ⟨s.told ++ [((t : Int), k, st, po, pt)], upd s.cnt t (i + 1)⟩ E2 w2 := runM_told M1 r1 hE.H' hxs hx hx' hB q2 rfl (by
        have h1 := sumTo_upd s.cnt (i + 1) (fun x => x) (j := L.length) (i := t) ht
        have h2 := M1.len
        have h3 : sumTo L.length (fun a => upd s.cnt t (i + 1) a) = sumTo L.length (upd s.cnt t (i + 1)) := rfl
        have h4 : sumTo L.length (fun a => s.cnt a) = sumTo L.length s.cnt := rfl
        show (s.told ++ [_]).length ≤ sumTo L.length (upd s.cnt t (i + 1))
        simp only [List.length_append, List.length_cons, List.length_nil]
        omega) hS.cnt
      have hfin := hc E2 w2 (k1.trans hK.weaken) (T1.kept hK.weaken T1.gct) (GA.kept hK g1 T1.gH T1.gW) M2
      replace hfin := Lib.hid hfin
      dsimp only at q1
      obtain ⟨f, rfl⟩ := arrf Ta q1
      change HGn Try.prog th.j F E2 w2 100 _
      refine Idl.step (idl_hg Try.prog th.j F E2 w2) _ _ _ rfl (fun _ => stepG_inBlock) ?_
      refine Idl.step (idl_hg Try.prog th.j F E2 w2) _ _ _ rfl (fun _ => stepG_end) ?_
      refine Idl.leave0 (n := 1) (idl_hg Try.prog th.j F E2 w2) rfl rfl Try.func42 rfl ?_
      exact hfin.out
  have key1 : ∀ {b₁ : Frame} {a₁ : Act} {ops₁ : Array Oper} {i₁ : Nat} {rest₁ : List Nat} {k₁ : List Item} {cl₁ : List Frame}, HG Try.prog th.j F E (G (b₁.at (a₁.put ((ops₁[i₁]?).bind (·.dst)) (.int .i64 k)) (.inRegion ops₁ rest₁ :: k₁)) cl₁) w → HGn Try.prog th.j F E w 100 (entry 37 Try.f37 #[.pointer (some ⟨th.gb, 0, none⟩)] (b₁.at a₁ (.inRegion ops₁ (i₁ :: rest₁) :: k₁) :: cl₁)) := fun hh => picks_own T g hh
  have key2 : ∀ {b₁ : Frame} {a₁ : Act} {ops₁ : Array Oper} {i₁ : Nat} {rest₁ : List Nat} {k₁ : List Item} {cl₁ : List Frame}, (∀ E' w', Kept th.j (some th.gb) E w E' w' → TKn h rb home k th E' w' → GA w' rb th false false (st, po, pt) → RunM bb K L s E' w' → HG Try.prog th.j F E' (G (b₁.at (a₁.put ((ops₁[i₁]?).bind (·.dst)) (.tuple #[.int .i64 st, .int .i64 po, .int .i64 pt])) (.inRegion ops₁ rest₁ :: k₁)) cl₁) w') → HGn Try.prog th.j F E w 100 (entry 31 Try.f31 #[.pointer (some ⟨th.gb, 0, none⟩)] (b₁.at a₁ (.inRegion ops₁ (i₁ :: rest₁) :: k₁) :: cl₁)) := fun hh => tally_th (D := runD bb K L) T g M hh
  clear hc hbound hi hl ht T g M
  replace P3 := Lib.hid P3
  replace key1 := @Lib.hid _ @key1
  replace key2 := @Lib.hid _ @key2
  unfold entry
  rw [show Try.f42.body.getD .skip = dBx (.seq xdR10 (.seq xdR11 dR12)) from dB_parts.trans (congrArg dBx dH_parts), show Try.f42.ntmps = 54 from rfl]
  generalize dR12 = L12 at P3 ⊢
  simp only [dBx, dB, Try.f42, Option.getD_some]
  walk_nrm
  refine Idl.q (idl_hg Try.prog th.j F E w) (Idl.rg (idl_hg Try.prog th.j F E w) [0] rfl ?_)
  apply Idl.value (idl_hg Try.prog th.j F E w) rfl rfl (by first | decide | exact base_kind _ | exact baseD_kind _ | assumption)
  focus (intro w; go_simp; (try w_num); first | done | rfl)
  focus (intro w; simp [go_sem, *])
  walk_nrm
  refine Idl.re (idl_hg Try.prog th.j F E w) (Idl.bl (idl_hg Try.prog th.j F E w) (Idl.q (idl_hg Try.prog th.j F E w) (Idl.rg (idl_hg Try.prog th.j F E w) [0, 1] rfl ?_)))
  iterate 2 (apply Idl.value (idl_hg Try.prog th.j F E w) rfl rfl (by first | decide | exact base_kind _ | exact baseD_kind _ | assumption); (focus (intro w; go_simp; (try w_num); first | done | rfl)); (focus (intro w; simp [go_sem, *])); walk_nrm)
  refine Idl.re (idl_hg Try.prog th.j F E w) (Idl.cf (idl_hg Try.prog th.j F E w) rfl (Idl.q (idl_hg Try.prog th.j F E w) (Idl.rg (idl_hg Try.prog th.j F E w) [0, 1] rfl ?_)))
  iterate 2 (apply Idl.value (idl_hg Try.prog th.j F E w) rfl rfl (by first | decide | exact base_kind _ | exact baseD_kind _ | assumption); (focus (intro w; go_simp; (try w_num); first | done | rfl)); (focus (intro w; simp [go_sem, *])); walk_nrm)
  refine Idl.re (idl_hg Try.prog th.j F E w) (Idl.cf (idl_hg Try.prog th.j F E w) rfl (Idl.q (idl_hg Try.prog th.j F E w) (Idl.rg (idl_hg Try.prog th.j F E w) [0, 1] rfl ?_)))
  iterate 2 (apply Idl.value (idl_hg Try.prog th.j F E w) rfl rfl (by first | decide | exact base_kind _ | exact baseD_kind _ | assumption); (focus (intro w; go_simp; (try w_num); first | done | rfl)); (focus (intro w; simp [go_sem, *])); walk_nrm)
  refine Idl.re (idl_hg Try.prog th.j F E w) (Idl.cf (idl_hg Try.prog th.j F E w) rfl (Idl.q (idl_hg Try.prog th.j F E w) (Idl.rg (idl_hg Try.prog th.j F E w) [0, 1] rfl ?_)))
  iterate 2 (apply Idl.value (idl_hg Try.prog th.j F E w) rfl rfl (by first | decide | exact base_kind _ | exact baseD_kind _ | assumption); (focus (intro w; go_simp; (try w_num); first | done | rfl)); (focus (intro w; simp [go_sem, *])); walk_nrm)
  refine Idl.re (idl_hg Try.prog th.j F E w) (Idl.cf (idl_hg Try.prog th.j F E w) rfl (Idl.q (idl_hg Try.prog th.j F E w) (Idl.rg (idl_hg Try.prog th.j F E w) [0, 1] rfl ?_)))
  iterate 2 (apply Idl.value (idl_hg Try.prog th.j F E w) rfl rfl (by first | decide | exact base_kind _ | exact baseD_kind _ | assumption); (focus (intro w; go_simp; (try w_num); first | done | rfl)); (focus (intro w; simp [go_sem, *])); walk_nrm)
  refine Idl.re (idl_hg Try.prog th.j F E w) (Idl.ct (idl_hg Try.prog th.j F E w) rfl (Idl.q (idl_hg Try.prog th.j F E w) ?_))
  simp only [xdR10, dR10, dH, dB, Try.f42, Option.getD_some]
  refine Idl.rg (idl_hg Try.prog th.j F E w) [0, 1, 2] rfl ?_
  apply Idl.value (idl_hg Try.prog th.j F E w) rfl rfl (by first | decide | exact base_kind _ | exact baseD_kind _ | assumption)
  focus (intro w; go_simp; (try w_num); first | done | rfl)
  focus (intro w; simp [go_sem, *])
  walk_nrm
  refine Idl.callE (fn := Try.f37) (vs := #[.pointer (some ⟨th.gb, 0, none⟩)]) (idl_hg Try.prog th.j F E w) rfl rfl (by k_ne) rfl Try.func37 rfl rfl (by simp [Act.eval]) ?_
  refine key1.out ?_
  change HGn Try.prog th.j F E w 100 _
  walk_nrm
  apply Idl.value (idl_hg Try.prog th.j F E w) rfl rfl (by first | decide | exact base_kind _ | exact baseD_kind _ | assumption)
  focus (intro w; go_simp; (try w_num); first | done | rfl)
  focus (intro w; simp [go_sem, *])
  walk_nrm
  refine Idl.re (idl_hg Try.prog th.j F E w) (Idl.q (idl_hg Try.prog th.j F E w) ?_)
  simp only [xdR11, dR11, dH, dB, Try.f42, Option.getD_some]
  refine Idl.rg (idl_hg Try.prog th.j F E w) [0, 1, 2, 3, 4, 5, 6, 7, 8] rfl ?_
  apply Idl.value (idl_hg Try.prog th.j F E w) rfl rfl (by first | decide | exact base_kind _ | exact baseD_kind _ | assumption)
  focus (intro w; go_simp; (try w_num); first | done | rfl)
  focus (intro w; simp [go_sem, *])
  walk_nrm
  refine Idl.callE (fn := Try.f31) (vs := #[.pointer (some ⟨th.gb, 0, none⟩)]) (idl_hg Try.prog th.j F E w) rfl rfl (by k_ne) rfl Try.func31 rfl rfl (by simp [Act.eval]) ?_
  refine key2.out (fun E1 w1 k1 T1 g1 M1 => ?_)
  replace k1 := Lib.hid k1
  replace T1 := Lib.hid T1
  replace g1 := Lib.hid g1
  replace M1 := Lib.hid M1
  clear key1 key2
  change HGn Try.prog th.j F E1 w1 100 _
  walk_nrm
  iterate 7 (apply Idl.value (idl_hg Try.prog th.j F E1 w1) rfl rfl (by first | decide | exact base_kind _ | exact baseD_kind _ | assumption); (focus (intro w; go_simp; (try w_num); first | done | rfl)); (focus (intro w; simp [go_sem, *])); walk_nrm)
  refine Idl.re (idl_hg Try.prog th.j F E1 w1) ?_
  exact P3.out _ (by simp) (by simp) (by simp) (by simp) (by simp) (by simp) (by simp) E1 w1 k1.out T1.out g1.out M1.out
end
end Go.Proofs.Ytimlbbleblijnaa.Co
