/- The text of what may be says it: plain. -/
import Derived.Test.YtgjcdhcbniholaaGreatPl
namespace Go.Proofs.YtgjcdhcbniholaaGreat.Rt
open Go.RowKit Go.Proofs.YtgjcdhcbniholaaGreat.La Go.Proofs.YtgjcdhcbniholaaGreat.Rp Go.Proofs.YtgjcdhcbniholaaGreat.Pr Go.Proofs.YtgjcdhcbniholaaGreat.Pl
set_option linter.unusedVariables false

theorem of_drop {s : ByteArray} {i : Nat} {b : UInt8} {r : List UInt8} (h : s.data.toList.drop i = b :: r) : ∃ hi : i < s.size, s[i] = b ∧ s.data.toList.drop (i + 1) = r := by
  have hi : i < s.size := by
    rcases Nat.lt_or_ge i s.size with h1 | h1
    · exact h1
    · rw [drop_end s i h1] at h; cases h
  rw [drop_at s i hi] at h
  injection h with h1 h2
  exact ⟨hi, h1, h2⟩

/-! Helps. -/
theorem unhF_forth (s : ByteArray) : ∀ (bytes : List UInt8) (f i : Nat) (acc : List UInt8), s.size < f + i → s.data.toList.drop i = Rp.escL pH bytes → unhF s f i acc = some (acc ++ bytes)
  | [], f, i, acc, hf, h => by
    have hi : s.size ≤ i := by
      rcases Nat.lt_or_ge i s.size with h1 | h1
      · rw [drop_at s i h1] at h; simp [Rp.escL] at h
      · exact h1
    cases f with
    | zero => rw [unhF]; simp
    | succ f => rw [unhF, dif_neg (by omega)]; simp
  | b :: bytes, f, i, acc, hf, h => by
    have hcons : Rp.escL pH (b :: bytes) = esc pH b ++ Rp.escL pH bytes := by simp [Rp.escL]
    rw [hcons] at h
    by_cases h92 : b = 92
    · subst h92
      rw [show esc pH 92 = [92, 92] from rfl] at h
      obtain ⟨h1, e1, h⟩ := of_drop h
      obtain ⟨h2, e2, h⟩ := of_drop h
      obtain ⟨f, rfl⟩ : ∃ f', f = f' + 1 := ⟨f - 1, by omega⟩
      rw [unhF, dif_pos h1, if_neg (by rw [e1]; decide), if_pos e1, dif_pos h2, if_pos e2, unhF_forth s bytes f (i + 2) _ (by omega) h]
      simp
    · by_cases h10 : b = 10
      · subst h10
        rw [show esc pH 10 = [92, 110] from rfl] at h
        obtain ⟨h1, e1, h⟩ := of_drop h
        obtain ⟨h2, e2, h⟩ := of_drop h
        obtain ⟨f, rfl⟩ : ∃ f', f = f' + 1 := ⟨f - 1, by omega⟩
        rw [unhF, dif_pos h1, if_neg (by rw [e1]; decide), if_pos e1, dif_pos h2, if_neg (by rw [e2]; decide), if_pos e2, unhF_forth s bytes f (i + 2) _ (by omega) h]
        simp
      · rw [escH_self b h10 h92] at h
        obtain ⟨h1, e1, h⟩ := of_drop h
        obtain ⟨f, rfl⟩ : ∃ f', f = f' + 1 := ⟨f - 1, by omega⟩
        rw [unhF, dif_pos h1, if_neg (by rw [e1]; exact h10), if_neg (by rw [e1]; exact h92), e1, unhF_forth s bytes f (i + 1) _ (by omega) h]
        simp
theorem unhR_forth (h : ByteArray) : unhR (escS pH h) = some h.data.toList := by
  unfold unhR
  have := unhF_forth (escS pH h) h.data.toList ((escS pH h).size + 1) 0 [] (by omega) (by unfold escS; simp)
  simpa using this

/-! Values. -/
theorem text_forth (s : ByteArray) (frm : Nat) : ∀ (bytes : List UInt8) (f i : Nat) (acc r : List UInt8), s.size < f + i → s.data.toList.drop i = Rp.escL pP bytes ++ 34 :: r → valE ⟨(acc ++ bytes).toArray⟩ = 0 →
    ∃ nx, textF s frm f i acc = .ok (acc ++ bytes) nx ∧ s.data.toList.drop nx = r ∧ nx ≤ s.size
  | [], f, i, acc, r, hf, h, hv => by
    simp only [Rp.escL, List.flatMap_nil, List.nil_append] at h
    obtain ⟨h1, e1, h⟩ := of_drop h
    obtain ⟨f, rfl⟩ : ∃ f', f = f' + 1 := ⟨f - 1, by omega⟩
    simp only [List.append_nil] at hv ⊢
    refine ⟨i + 1, ?_, h, h1⟩
    rw [textF, dif_pos h1, if_neg (by rw [e1]; decide), if_pos e1, if_pos hv]
  | b :: bytes, f, i, acc, r, hf, h, hv => by
    have hcons : Rp.escL pP (b :: bytes) = esc pP b ++ Rp.escL pP bytes := by simp [Rp.escL]
    rw [hcons, List.append_assoc] at h
    have hac : acc ++ b :: bytes = (acc ++ [b]) ++ bytes := by simp
    rw [hac] at hv ⊢
    have two : ∀ x : UInt8, esc pP b = [92, x] → La.escL x = some b → ∃ nx, textF s frm f i acc = .ok ((acc ++ [b]) ++ bytes) nx ∧ s.data.toList.drop nx = r ∧ nx ≤ s.size := by
      intro x he hx
      rw [he] at h
      obtain ⟨h1, e1, h⟩ := of_drop h
      obtain ⟨h2, e2, h⟩ := of_drop h
      obtain ⟨f, rfl⟩ : ∃ f', f = f' + 1 := ⟨f - 1, by omega⟩
      obtain ⟨nx, k1, k2⟩ := text_forth s frm bytes f (i + 2) (acc ++ [b]) r (by omega) h hv
      refine ⟨nx, ?_, k2⟩
      rw [textF, dif_pos h1, if_neg (by rw [e1]; decide), if_neg (by rw [e1]; decide), if_pos e1, dif_pos h2, e2, hx]
      exact k1
    by_cases h92 : b = 92
    · subst h92; exact two 92 rfl rfl
    · by_cases h34 : b = 34
      · subst h34; exact two 34 rfl rfl
      · by_cases h10 : b = 10
        · subst h10; exact two 110 rfl rfl
        · rw [escP_self b h10 h92 h34] at h
          obtain ⟨h1, e1, h⟩ := of_drop h
          obtain ⟨f, rfl⟩ : ∃ f', f = f' + 1 := ⟨f - 1, by omega⟩
          obtain ⟨nx, k1, k2⟩ := text_forth s frm bytes f (i + 1) (acc ++ [b]) r (by omega) h hv
          refine ⟨nx, ?_, k2⟩
          rw [textF, dif_pos h1, if_neg (by rw [e1]; exact h10), if_neg (by rw [e1]; exact h34), if_neg (by rw [e1]; exact h92), e1]
          exact k1

/-! Labels. -/
theorem takeWhile_row (p : UInt8 → Bool) : ∀ (u v : List UInt8), u.all p = true → (∀ b r, v = b :: r → p b = false) → (u ++ v).takeWhile p = u
  | [], v, _, hv => by
    cases v with
    | nil => rfl
    | cons b r => simp [hv b r rfl]
  | b :: u, v, hu, hv => by
    rw [List.all_cons, Bool.and_eq_true] at hu
    rw [List.cons_append, List.takeWhile_cons, hu.1]
    simp [takeWhile_row p u v hu.2 hv]
theorem row_of (colon : Bool) (s : ByteArray) (p : Nat) (u : ByteArray) (v : List UInt8) (h : s.data.toList.drop p = u.data.toList ++ v) (hu : u.data.toList.all (isR colon) = true) (hv : ∀ b r, v = b :: r → isR colon b = false) :
    La.rowLen colon s p = u.size ∧ rowS colon s p = u := by
  have hl : La.rowLen colon s p = u.size := by
    unfold La.rowLen rowL
    rw [h, takeWhile_row _ _ _ hu hv, len_data]
  refine ⟨hl, ?_⟩
  unfold rowS
  rw [hl]
  apply ByteArray.ext
  apply Array.toList_inj.1
  rw [ByteArray.data_extract]
  simp only [Array.toList_extract, List.extract_eq_take_drop]
  rw [show p + u.size - p = u.size by omega, h, List.take_append_of_le_length (by simp), List.take_of_length_le (by simp)]
theorem nm_all {colon : Bool} {l : List UInt8} (h : nmL colon l = true) : l.all (isR colon) = true := by
  unfold nmL at h
  rw [Bool.and_eq_true] at h
  exact h.2
theorem nameL_all {l : List UInt8} (h : nameL l = true) : l.all (isR true) = true := by
  unfold nameL at h
  rw [Bool.and_eq_true] at h
  exact nm_all h.1
theorem lnameL_all {l : List UInt8} (h : lnameL l = true) : l.all (isR false) = true := by
  unfold lnameL at h
  rw [Bool.and_eq_true] at h
  exact nm_all h.1
theorem is_of {s : ByteArray} {i : Nat} {b : UInt8} {r : List UInt8} (h : s.data.toList.drop i = b :: r) : isAt s i b := by
  obtain ⟨h1, e1, _⟩ := of_drop h
  exact ⟨h1, e1⟩
theorem r61 : isR false 61 = false := by kernel_rfl
theorem r123 : isR true 123 = false := by kernel_rfl

theorem lab_forth (s : ByteArray) (acc : List Lab) (p : Nat) (x : Lab) (r : List UInt8) (h : s.data.toList.drop p = labT x ++ r) (h16 : acc.length ≠ 16) (h1 : lnameL x.1.data.toList = true) (h2 : behE acc x.1 = 0) (h3 : valE x.2 = 0) :
    ∃ nx, labR s acc p = .ok x nx ∧ s.data.toList.drop nx = r ∧ nx ≤ s.size := by
  have h' : s.data.toList.drop p = x.1.data.toList ++ (61 :: 34 :: (Rp.escL pP x.2.data.toList ++ 34 :: r)) := by rw [h]; simp [labT]
  obtain ⟨l1, l2⟩ := row_of false s p x.1 _ h' (lnameL_all h1) (fun b q e => by injection e with e _; rw [← e]; exact r61)
  have hd : s.data.toList.drop (p + x.1.size) = 61 :: 34 :: (Rp.escL pP x.2.data.toList ++ 34 :: r) := by
    rw [← List.drop_drop, h', List.drop_append_of_le_length (by simp), List.drop_of_length_le (by simp)]; rfl
  obtain ⟨_, _, hd2⟩ := of_drop hd
  obtain ⟨_, _, hd3⟩ := of_drop hd2
  obtain ⟨nx, k1, k2, k3⟩ := text_forth s (p + x.1.size + 2) x.2.data.toList (s.size + 1) (p + x.1.size + 2) [] r (by omega) hd3 (by simpa using h3)
  refine ⟨nx, ?_, k2, k3⟩
  unfold labR
  rw [l1, l2, if_neg h16, h1, if_neg (by decide), if_neg (by rw [h2]; simp), if_neg (fun k => k (is_of hd)), if_neg (fun k => k (is_of hd2))]
  unfold textR
  rw [k1]
  rfl

def jn : List Lab → List UInt8
  | [] => []
  | [x] => labT x
  | x :: y :: r => labT x ++ 44 :: jn (y :: r)
theorem jn_snoc : ∀ (l : List Lab) (x : Lab), l ≠ [] → jn (l ++ [x]) = jn l ++ 44 :: labT x
  | [], x, h => absurd rfl h
  | [y], x, _ => rfl
  | y :: z :: r, x, _ => by
    have := jn_snoc (z :: r) x (by simp)
    simp only [List.cons_append] at this ⊢
    rw [jn, this, jn]
    simp
theorem prN_jn (nm : ByteArray) (l : List Lab) : ∀ n, n ≤ l.length → prN nm l n = nm.data.toList ++ (if n = 0 then [] else 123 :: jn (l.take n))
  | 0, _ => by simp [prN]
  | n + 1, hn => by
    have hil : n < l.length := by omega
    have hg : l.getD n (⟨#[]⟩, ⟨#[]⟩) = l[n] := by rw [List.getD_eq_getElem?_getD, List.getElem?_eq_getElem hil]; rfl
    have ht : l.take (n + 1) = l.take n ++ [l[n]] := by rw [List.take_add_one, List.getElem?_eq_getElem hil]; rfl
    rw [prN, prN_jn nm l n (by omega), hg, ht, if_neg (show ¬ n + 1 = 0 by omega)]
    by_cases h0 : n = 0
    · subst h0; simp [jn]
    · simp only [h0, if_false]
      have hne : l.take n ≠ [] := fun e => by
        have h1 : (l.take n).length = 0 := by rw [e]; rfl
        rw [List.length_take] at h1
        omega
      rw [jn_snoc _ _ hne]
      simp

theorem ser_forth (s nm : ByteArray) : ∀ (ext : List Lab) (f i : Nat) (acc : List Lab), ext ≠ [] → ext.length ≤ f → LabsOk (acc ++ ext) → s.data.toList.drop i = jn ext ++ [125] → serF s nm f i acc = .ok nm (acc ++ ext)
  | [], f, i, acc, h, _, _, _ => absurd rfl h
  | x :: ext, 0, i, acc, _, hf, _, _ => by simp at hf
  | x :: ext, f + 1, i, acc, _, hf, hok, hd => by
    have hm := hok.many
    obtain ⟨a1, a2, a3⟩ := hok.each acc.length (by simp)
    have hg : (acc ++ x :: ext)[acc.length]'(by simp) = x := by simp
    have htk : (acc ++ x :: ext).take acc.length = acc := by simp
    rw [hg] at a1 a3
    rw [hg, htk] at a2
    have h16 : acc.length ≠ 16 := by simp at hm; omega
    cases ext with
    | nil =>
      obtain ⟨nx, k1, k2, k3⟩ := lab_forth s acc i x [125] hd h16 a1 a2 a3
      have hn44 : ¬ isAt s nx 44 := by
        rintro ⟨q1, q2⟩
        obtain ⟨_, e, _⟩ := of_drop k2
        rw [q2] at e; cases e
      obtain ⟨e1, _, e3⟩ := of_drop k2
      have hend : ¬ nx + 1 < s.size := by
        intro q
        rw [drop_at s (nx + 1) q] at e3; cases e3
      rw [serF, k1]
      simp only
      rw [if_neg hn44, if_neg (fun k => k (is_of k2)), if_neg hend]
    | cons y ext =>
      have hd' : s.data.toList.drop i = labT x ++ (44 :: (jn (y :: ext) ++ [125])) := by rw [hd, jn]; simp
      obtain ⟨nx, k1, k2, k3⟩ := lab_forth s acc i x _ hd' h16 a1 a2 a3
      obtain ⟨e1, _, e3⟩ := of_drop k2
      rw [serF, k1]
      simp only
      rw [if_pos (is_of k2), ser_forth s nm (y :: ext) f (nx + 1) (acc ++ [x]) (by simp) (by simp at hf ⊢; omega) (by simpa using hok) e3]
      simp

theorem serR_forth (nm : ByteArray) (l : List Lab) (hn : nameL nm.data.toList = true) (hl : LabsOk l) : serR (prS nm l) = .ok nm l := by
  have hdata : (prS nm l).data.toList = prT nm l := by unfold prS; simp
  by_cases h0 : l = []
  · subst h0
    have hd : (prS nm []).data.toList.drop 0 = nm.data.toList ++ [] := by rw [hdata]; simp [prT]
    obtain ⟨l1, l2⟩ := row_of true _ 0 nm [] hd (nameL_all hn) (fun b r e => by cases e)
    have hs : (prS nm []).size = nm.size := by
      have := congrArg List.length hdata
      simp [prT] at this
      exact this
    unfold serR
    rw [l2, hn, if_neg (by decide), l1, if_pos hs.symm]
  · have hpr : prT nm l = nm.data.toList ++ 123 :: (jn l ++ [125]) := by
      unfold prT
      rw [if_neg h0, prN_jn nm l l.length (Nat.le_refl _), if_neg (fun e => h0 (List.eq_nil_of_length_eq_zero e)), List.take_length]
      simp
    have hd : (prS nm l).data.toList.drop 0 = nm.data.toList ++ 123 :: (jn l ++ [125]) := by rw [hdata, hpr]; rfl
    obtain ⟨l1, l2⟩ := row_of true _ 0 nm _ hd (nameL_all hn) (fun b r e => by injection e with e _; rw [← e]; exact r123)
    have hd2 : (prS nm l).data.toList.drop nm.size = 123 :: (jn l ++ [125]) := by
      rw [hdata, hpr, List.drop_append_of_le_length (by simp), List.drop_of_length_le (by simp)]; rfl
    obtain ⟨e1, _, e3⟩ := of_drop hd2
    unfold serR
    rw [l2, hn, if_neg (by decide), l1, if_neg (by omega), if_neg (fun k => k (is_of hd2)), ser_forth _ nm l 17 (nm.size + 1) [] h0 (by have := hl.many; omega) (by simpa using hl) e3]
    rfl
theorem prS_inj {a b : ByteArray} {l m : List Lab} (h1 : nameL a.data.toList = true) (h2 : LabsOk l) (h3 : nameL b.data.toList = true) (h4 : LabsOk m) : (prS a l = prS b m) ↔ (a = b ∧ l = m) := by
  constructor
  · intro h
    have e1 := serR_forth a l h1 h2
    have e2 := serR_forth b m h3 h4
    rw [h, e2] at e1
    injection e1 with e3 e4
    exact ⟨e3.symm, e4.symm⟩
  · rintro ⟨rfl, rfl⟩; rfl
end Go.Proofs.YtgjcdhcbniholaaGreat.Rt
