/- What is read is the text of what it says: plain. -/
import Derived.Test.YtgjcdhcbniholaaGreatPr0
import Derived.Test.YtgjcdhcbniholaaGreatLaG
namespace Go.Proofs.YtgjcdhcbniholaaGreat.Pl
open Go.RowKit Go.Proofs.YtgjcdhcbniholaaGreat.La Go.Proofs.YtgjcdhcbniholaaGreat.Rp Go.Proofs.YtgjcdhcbniholaaGreat.Pr
set_option linter.unusedVariables false

theorem drop_at (s : ByteArray) (i : Nat) (h : i < s.size) : s.data.toList.drop i = s[i] :: s.data.toList.drop (i + 1) := by
  rw [List.drop_eq_getElem_cons (by simpa using h)]
  rfl
theorem drop_end (s : ByteArray) (i : Nat) (h : s.size ≤ i) : s.data.toList.drop i = [] := List.drop_of_length_le (by simpa using h)
theorem escL_snoc (ps : List Pr) (l : List UInt8) (b : UInt8) : escL ps (l ++ [b]) = escL ps l ++ esc ps b := by simp [Rp.escL]

/-! Helps. -/
theorem escH_self (b : UInt8) (h1 : b ≠ 10) (h2 : b ≠ 92) : esc pH b = [b] := by
  have e1 : (b == 92) = false := by simpa using h2
  have e2 : (b == 10) = false := by simpa using h1
  have : pH.lookup b = none := by simp only [pH, List.lookup_cons, e1, e2, List.lookup_nil]
  rw [esc, this]
theorem unhF_back (s : ByteArray) : ∀ (f i : Nat) (acc r : List UInt8), s.size < f + i → unhF s f i acc = some r → escL pH r = escL pH acc ++ s.data.toList.drop i
  | 0, i, acc, r, hf, h => by
    rw [unhF] at h
    obtain rfl := Option.some.inj h
    rw [drop_end s i (by omega)]; simp
  | f + 1, i, acc, r, hf, h => by
    rw [unhF] at h
    by_cases hlt : i < s.size
    · rw [dif_pos hlt] at h
      rw [drop_at s i hlt]
      by_cases h10 : s[i] = 10
      · rw [if_pos h10] at h; cases h
      · rw [if_neg h10] at h
        by_cases h92 : s[i] = 92
        · rw [if_pos h92] at h
          by_cases hl2 : i + 1 < s.size
          · rw [dif_pos hl2] at h
            rw [drop_at s (i + 1) hl2, h92]
            by_cases k1 : s[i + 1] = 92
            · rw [if_pos k1] at h
              rw [unhF_back s f (i + 2) _ r (by omega) h, escL_snoc, k1]
              simp [show esc pH 92 = [92, 92] from rfl]
            · rw [if_neg k1] at h
              by_cases k2 : s[i + 1] = 110
              · rw [if_pos k2] at h
                rw [unhF_back s f (i + 2) _ r (by omega) h, escL_snoc, k2]
                simp [show esc pH 10 = [92, 110] from rfl]
              · rw [if_neg k2] at h; cases h
          · rw [dif_neg hl2] at h; cases h
        · rw [if_neg h92] at h
          rw [unhF_back s f (i + 1) _ r (by omega) h, escL_snoc, escH_self _ h10 h92]
          simp
    · rw [dif_neg hlt] at h
      obtain rfl := Option.some.inj h
      rw [drop_end s i (by omega)]; simp
/-- A help that is read back has the text that was read. -/
theorem unhR_back (s : ByteArray) (r : List UInt8) (h : unhR s = some r) : escL pH r = s.data.toList := by
  have := unhF_back s (s.size + 1) 0 [] r (by omega) h
  simpa [Rp.escL] using this

/-! Values. -/
theorem escP_self (b : UInt8) (h1 : b ≠ 10) (h2 : b ≠ 92) (h3 : b ≠ 34) : esc pP b = [b] := by
  have e1 : (b == 92) = false := by simpa using h2
  have e2 : (b == 10) = false := by simpa using h1
  have e3 : (b == 34) = false := by simpa using h3
  have : pP.lookup b = none := by simp only [pP, List.lookup_cons, e1, e2, e3, List.lookup_nil]
  rw [esc, this]
theorem escL_back {b c : UInt8} (h : La.escL b = some c) : esc pP c = [92, b] := by
  unfold La.escL at h
  split at h
  · rename_i hb
    obtain rfl := Option.some.inj h
    rcases hb with rfl | rfl <;> rfl
  · split at h
    · rename_i hb
      obtain rfl := Option.some.inj h
      rw [hb]; rfl
    · cases h

theorem text_ok (s : ByteArray) (frm : Nat) : ∀ (f i : Nat) (acc bytes : List UInt8) (next : Nat), i ≤ s.size → textF s frm f i acc = .ok bytes next →
    next ≤ s.size ∧ valE ⟨bytes.toArray⟩ = 0 ∧ Rp.escL pP acc ++ s.data.toList.drop i = Rp.escL pP bytes ++ 34 :: s.data.toList.drop next
  | 0, i, acc, bytes, next, hi, h => by rw [textF] at h; cases h
  | f + 1, i, acc, bytes, next, hi, h => by
    rw [textF] at h
    by_cases hlt : i < s.size
    · rw [dif_pos hlt] at h
      rw [drop_at s i hlt]
      by_cases h10 : s[i] = 10
      · rw [if_pos h10] at h; cases h
      · rw [if_neg h10] at h
        by_cases h34 : s[i] = 34
        · rw [if_pos h34] at h
          by_cases hv : valE ⟨acc.toArray⟩ = 0
          · rw [if_pos hv] at h
            injection h with e1 e2
            subst e1; subst e2
            exact ⟨hlt, hv, by rw [h34]⟩
          · rw [if_neg hv] at h; cases h
        · rw [if_neg h34] at h
          by_cases h92 : s[i] = 92
          · rw [if_pos h92] at h
            by_cases hl2 : i + 1 < s.size
            · rw [dif_pos hl2] at h
              cases hc : La.escL s[i + 1] with
              | none => rw [hc] at h; cases h
              | some c =>
                rw [hc] at h
                obtain ⟨k1, k2, k3⟩ := text_ok s frm f (i + 2) (acc ++ [c]) bytes next (by omega) h
                refine ⟨k1, k2, ?_⟩
                rw [← k3, escL_snoc, escL_back hc, drop_at s (i + 1) hl2, h92]
                simp
            · rw [dif_neg hl2] at h; cases h
          · rw [if_neg h92] at h
            obtain ⟨k1, k2, k3⟩ := text_ok s frm f (i + 1) (acc ++ [s[i]]) bytes next hlt h
            refine ⟨k1, k2, ?_⟩
            rw [← k3, escL_snoc, escP_self _ h10 h92 h34]
            simp
    · rw [dif_neg hlt] at h; cases h
theorem text_bad (s : ByteArray) (frm : Nat) (hfrm : frm ≤ s.size) : ∀ (f i : Nat) (acc : List UInt8) (e : Int) (q : Nat), i ≤ s.size → textF s frm f i acc = .bad e q → e ≠ 0 ∧ q ≤ s.size
  | 0, i, acc, e, q, hi, h => by
    rw [textF] at h; injection h with e1 e2; subst e1; subst e2; exact ⟨by decide, hi⟩
  | f + 1, i, acc, e, q, hi, h => by
    rw [textF] at h
    by_cases hlt : i < s.size
    · rw [dif_pos hlt] at h
      by_cases h10 : s[i] = 10
      · rw [if_pos h10] at h; injection h with e1 e2; subst e1; subst e2; exact ⟨by decide, hi⟩
      · rw [if_neg h10] at h
        by_cases h34 : s[i] = 34
        · rw [if_pos h34] at h
          by_cases hv : valE ⟨acc.toArray⟩ = 0
          · rw [if_pos hv] at h; cases h
          · rw [if_neg hv] at h; injection h with e1 e2; subst e1; subst e2; exact ⟨hv, hfrm⟩
        · rw [if_neg h34] at h
          by_cases h92 : s[i] = 92
          · rw [if_pos h92] at h
            by_cases hl2 : i + 1 < s.size
            · rw [dif_pos hl2] at h
              cases hc : La.escL s[i + 1] with
              | none => rw [hc] at h; injection h with e1 e2; subst e1; subst e2; exact ⟨by decide, hi⟩
              | some c => rw [hc] at h; exact text_bad s frm hfrm f (i + 2) _ e q (by omega) h
            · rw [dif_neg hl2] at h; injection h with e1 e2; subst e1; subst e2; exact ⟨by decide, hi⟩
          · rw [if_neg h92] at h; exact text_bad s frm hfrm f (i + 1) _ e q hlt h
    · rw [dif_neg hlt] at h; injection h with e1 e2; subst e1; subst e2; exact ⟨by decide, hi⟩

/-! Labels. -/
theorem row_drop (colon : Bool) (s : ByteArray) (p : Nat) (hp : p ≤ s.size) : s.data.toList.drop p = (rowS colon s p).data.toList ++ s.data.toList.drop (p + La.rowLen colon s p) := by
  unfold rowS La.rowLen
  rw [ByteArray.data_extract]
  simp only [Array.toList_extract, List.extract_eq_take_drop]
  rw [show p + (rowL colon (s.data.toList.drop p)).length - p = (rowL colon (s.data.toList.drop p)).length by omega]
  conv => lhs; rw [← List.take_append_drop (rowL colon (s.data.toList.drop p)).length (s.data.toList.drop p)]
  rw [List.drop_drop]
theorem at_drop {s : ByteArray} {q : Nat} {c : UInt8} (h : isAt s q c) : q < s.size ∧ s.data.toList.drop q = c :: s.data.toList.drop (q + 1) := by
  obtain ⟨h1, h2⟩ := h
  exact ⟨h1, by rw [drop_at s q h1, h2]⟩

theorem lab_ok (s : ByteArray) (l : List Lab) (p : Nat) (hp : p ≤ s.size) {x : Lab} {next : Nat} (h : labR s l p = .ok x next) :
    next ≤ s.size ∧ s.data.toList.drop p = labT x ++ s.data.toList.drop next ∧ l.length ≠ 16 ∧ lnameL x.1.data.toList = true ∧ behE l x.1 = 0 ∧ valE x.2 = 0 := by
  unfold labR at h
  split at h
  · cases h
  rename_i h16
  split at h
  · cases h
  rename_i hln
  split at h
  · cases h
  rename_i hbe
  split at h
  · cases h
  rename_i ha1
  split at h
  · cases h
  rename_i ha2
  obtain ⟨a1, a2⟩ := at_drop (Decidable.not_not.1 ha1)
  obtain ⟨b1, b2⟩ := at_drop (Decidable.not_not.1 ha2)
  cases ht : textR s (p + La.rowLen false s p + 2) with
  | bad e a => rw [ht] at h; cases h
  | ok bytes nx =>
    rw [ht] at h
    injection h with e1 e2
    subst e1; subst e2
    obtain ⟨k1, k2, k3⟩ := text_ok s _ _ _ _ _ _ (by omega) ht
    refine ⟨k1, ?_, h16, by simpa using hln, Decidable.not_not.1 hbe, k2⟩
    have k4 : s.data.toList.drop (p + La.rowLen false s p + 2) = Rp.escL pP bytes ++ 34 :: s.data.toList.drop nx := by simpa [Rp.escL] using k3
    rw [row_drop false s p hp, a2, b2, k4]
    simp [labT]
theorem lab_bad (s : ByteArray) (l : List Lab) (p : Nat) (hp : p ≤ s.size) {e : Int} {q : Nat} (h : labR s l p = .bad e q) : e ≠ 0 ∧ q ≤ s.size := by
  have hr := rowLen_le false s p hp
  unfold labR at h
  split at h
  · injection h with e1 e2; subst e1; subst e2; exact ⟨by decide, hp⟩
  split at h
  · injection h with e1 e2; subst e1; subst e2; exact ⟨by decide, hp⟩
  split at h
  · rename_i hb; injection h with e1 e2; subst e1; subst e2; exact ⟨hb, hp⟩
  split at h
  · injection h with e1 e2; subst e1; subst e2; exact ⟨by decide, hr⟩
  rename_i ha1
  obtain ⟨a1, a2⟩ := at_drop (Decidable.not_not.1 ha1)
  split at h
  · injection h with e1 e2; subst e1; subst e2; exact ⟨by decide, a1⟩
  rename_i ha2
  obtain ⟨b1, b2⟩ := at_drop (Decidable.not_not.1 ha2)
  cases ht : textR s (p + La.rowLen false s p + 2) with
  | ok bytes nx => rw [ht] at h; cases h
  | bad e1 a =>
    rw [ht] at h
    injection h with e2 e3
    subst e2; subst e3
    exact text_bad s _ (by omega) _ _ _ _ _ (by omega) ht

/-- Labels that may be. -/
structure LabsOk (l : List Lab) : Prop where
  many : l.length ≤ 16
  each : ∀ i (h : i < l.length), lnameL l[i].1.data.toList = true ∧ behE (l.take i) l[i].1 = 0 ∧ valE l[i].2 = 0
theorem LabsOk.nil : LabsOk [] := ⟨by decide, fun i h => absurd h (by simp)⟩
theorem LabsOk.snoc {l : List Lab} (h : LabsOk l) {x : Lab} (h16 : l.length ≠ 16) (h1 : lnameL x.1.data.toList = true) (h2 : behE l x.1 = 0) (h3 : valE x.2 = 0) : LabsOk (l ++ [x]) := by
  have := h.many
  refine ⟨by simp; omega, fun i hi => ?_⟩
  by_cases hil : i < l.length
  · rw [List.getElem_append_left hil, List.take_append_of_le_length (by omega)]
    exact h.each i hil
  · have : i = l.length := by simp at hi; omega
    subst this
    rw [List.take_append_of_le_length (Nat.le_refl _), List.take_length]
    simpa using ⟨h1, h2, h3⟩

theorem prN_prefix (nm : ByteArray) (l m : List Lab) : ∀ i, i ≤ l.length → prN nm (l ++ m) i = prN nm l i
  | 0, _ => rfl
  | i + 1, hi => by
    unfold prN
    rw [prN_prefix nm l m i (by omega)]
    have : (l ++ m).getD i (⟨#[]⟩, ⟨#[]⟩) = l.getD i (⟨#[]⟩, ⟨#[]⟩) := by
      rw [List.getD_eq_getElem?_getD, List.getD_eq_getElem?_getD, List.getElem?_append_left (by omega)]
    rw [this]
theorem prN_snoc (nm : ByteArray) (l : List Lab) (x : Lab) : prN nm (l ++ [x]) (l.length + 1) = prN nm l l.length ++ ((if l.length = 0 then 123 else 44) :: labT x) := by
  rw [prN, prN_prefix nm l [x] l.length (Nat.le_refl _)]
  have : (l ++ [x]).getD l.length (⟨#[]⟩, ⟨#[]⟩) = x := by simp [List.getD_eq_getElem?_getD]
  rw [this]

theorem ser_ok (s nm : ByteArray) : ∀ (f i : Nat) (acc : List Lab) (nm' : ByteArray) (l : List Lab), i ≤ s.size → LabsOk acc → serF s nm f i acc = .ok nm' l →
    nm' = nm ∧ LabsOk l ∧ prT nm l = prN nm acc acc.length ++ ((if acc.length = 0 then 123 else 44) :: s.data.toList.drop i)
  | 0, i, acc, nm', l, hi, hok, h => by rw [serF] at h; cases h
  | f + 1, i, acc, nm', l, hi, hok, h => by
    rw [serF] at h
    cases hlr : labR s acc i with
    | bad e q => rw [hlr] at h; cases h
    | ok x next =>
      rw [hlr] at h
      obtain ⟨k1, k2, k3, k4, k5, k6⟩ := lab_ok s acc i hi hlr
      have hok2 := hok.snoc k3 k4 k5 k6
      have hpr : prN nm acc acc.length ++ ((if acc.length = 0 then 123 else 44) :: s.data.toList.drop i) = prN nm (acc ++ [x]) (acc ++ [x]).length ++ s.data.toList.drop next := by
        rw [k2, List.length_append, List.length_singleton, prN_snoc]
        simp
      rw [hpr]
      simp only at h
      split at h
      · rename_i h44
        obtain ⟨a1, a2⟩ := at_drop h44
        obtain ⟨r1, r2, r3⟩ := ser_ok s nm f (next + 1) (acc ++ [x]) nm' l a1 hok2 h
        refine ⟨r1, r2, ?_⟩
        rw [r3, a2, if_neg (by simp)]
      split at h
      · cases h
      rename_i h125
      obtain ⟨a1, a2⟩ := at_drop (Decidable.not_not.1 h125)
      split at h
      · cases h
      rename_i hend
      injection h with e1 e2
      subst e1; subst e2
      refine ⟨rfl, hok2, ?_⟩
      rw [a2, drop_end s (next + 1) (by omega), prT, if_neg (by simp)]
theorem ser_bad (s nm : ByteArray) : ∀ (f i : Nat) (acc : List Lab) (e : Int) (q : Nat), i ≤ s.size → serF s nm f i acc = .bad e q → e ≠ 0 ∧ q ≤ s.size
  | 0, i, acc, e, q, hi, h => by rw [serF] at h; injection h with e1 e2; subst e1; subst e2; exact ⟨by decide, hi⟩
  | f + 1, i, acc, e, q, hi, h => by
    rw [serF] at h
    cases hlr : labR s acc i with
    | bad e' q' => rw [hlr] at h; injection h with e1 e2; subst e1; subst e2; exact lab_bad s acc i hi hlr
    | ok x next =>
      rw [hlr] at h
      have k1 := (lab_ok s acc i hi hlr).1
      simp only at h
      split at h
      · rename_i h44
        exact ser_bad s nm f (next + 1) _ e q (at_drop h44).1 h
      split at h
      · injection h with e1 e2; subst e1; subst e2; exact ⟨by decide, k1⟩
      split at h
      · rename_i hn; injection h with e1 e2; subst e1; subst e2; exact ⟨by decide, by omega⟩
      · cases h

/-- Whatever is read is the text of what it says, which may be. -/
theorem serR_ok (s nm : ByteArray) (l : List Lab) (h : serR s = .ok nm l) : nameL nm.data.toList = true ∧ LabsOk l ∧ prT nm l = s.data.toList := by
  have h0 := row_drop true s 0 (Nat.zero_le _)
  have hr := rowLen_le true s 0 (Nat.zero_le _)
  rw [Nat.zero_add] at h0 hr
  simp only [List.drop_zero] at h0
  unfold serR at h
  split at h
  · cases h
  rename_i hn
  split at h
  · rename_i he
    injection h with e1 e2
    subst e1; subst e2
    refine ⟨by simpa using hn, LabsOk.nil, ?_⟩
    rw [h0, drop_end s _ (by omega)]
    simp [prT]
  split at h
  · cases h
  rename_i ha
  obtain ⟨a1, a2⟩ := at_drop (Decidable.not_not.1 ha)
  obtain ⟨r1, r2, r3⟩ := ser_ok s _ _ _ _ _ _ a1 LabsOk.nil h
  subst r1
  refine ⟨by simpa using hn, r2, ?_⟩
  rw [r3]
  conv => rhs; rw [h0, a2]
  rfl
theorem serR_bad (s : ByteArray) (e : Int) (q : Nat) (h : serR s = .bad e q) : e ≠ 0 ∧ q ≤ s.size := by
  have hr := rowLen_le true s 0 (Nat.zero_le _)
  rw [Nat.zero_add] at hr
  unfold serR at h
  split at h
  · injection h with e1 e2; subst e1; subst e2; exact ⟨by decide, Nat.zero_le _⟩
  split at h
  · cases h
  split at h
  · injection h with e1 e2; subst e1; subst e2; exact ⟨by decide, hr⟩
  rename_i ha
  exact ser_bad s _ _ _ _ _ _ (at_drop (Decidable.not_not.1 ha)).1 h

theorem val_len {s : ByteArray} (h : valE s = 0) : s.size ≤ 1024 := by
  unfold valE at h
  split at h
  · cases h
  · omega
theorem name_len {colon : Bool} {l : List UInt8} (h : nmL colon l = true) : l.length ≤ 64 := by
  unfold nmL at h
  rw [Bool.and_eq_true] at h
  have h1 := h.1
  cases l with
  | nil => simp
  | cons b r =>
    unfold firstL at h1
    simp at h1
    simp; omega
theorem nameL_len {l : List UInt8} (h : nameL l = true) : l.length ≤ 64 := by
  unfold nameL at h
  rw [Bool.and_eq_true] at h
  exact name_len h.1
theorem lnameL_len {l : List UInt8} (h : lnameL l = true) : l.length ≤ 64 := by
  unfold lnameL at h
  rw [Bool.and_eq_true] at h
  exact name_len h.1
theorem tot_small (nm : ByteArray) (l : List Lab) (hn : nameL nm.data.toList = true) (h : LabsOk l) : ∀ i, i ≤ l.length → tot nm l i ≤ 64 + 1096 * i
  | 0, _ => by have := nameL_len hn; simp at this; unfold tot; omega
  | i + 1, hi => by
    have ih := tot_small nm l hn h i (by omega)
    obtain ⟨a1, _, a3⟩ := h.each i (by omega)
    have b1 := lnameL_len a1
    have b3 := val_len a3
    simp at b1
    unfold tot
    have : l.getD i (⟨#[]⟩, ⟨#[]⟩) = l[i] := by rw [List.getD_eq_getElem?_getD, List.getElem?_eq_getElem (by omega)]; rfl
    rw [this]
    omega
end Go.Proofs.YtgjcdhcbniholaaGreat.Pl
