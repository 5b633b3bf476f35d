/- Contracts of dict.plain and clewref35.key: a word as it stands in a dictionary. -/
import Derived.Test.YtlkdphbgephfiaaDictPlain
import Derived.Test.YtlkdphbgephfiaaLower
import Derived.Test.YtlkdphbgephfiaaShelf
namespace Go.Proofs.Ytlkdphbgephfiaa
open Go.RowKit Go.PlainAid
set_option linter.unusedVariables false
set_option linter.unusedSimpArgs false

def mkS (l : List UInt8) : ByteArray := ⟨l.toArray⟩
theorem short_same (s : ByteArray) (h : s.size ≤ 9) : mkS (s.data.toList.take 9) = s := by
  unfold mkS
  rw [List.take_of_length_le (by simpa using h)]
theorem short_cut (s : ByteArray) (n : Nat) (h : 9 < s.size) (hn : n = 9) : s.extract 0 n = mkS (s.data.toList.take 9) := by
  subst hn
  unfold mkS
  apply ByteArray.ext
  apply Array.toList_inj.1
  rw [Lib.extract_data]; simp
theorem short_cut' (s : ByteArray) (n : Nat) (h : s.size ≤ 9) (hn : n = s.size) : s.extract 0 n = mkS (s.data.toList.take 9) := by
  subst hn
  rw [short_same s h]
  apply ByteArray.ext
  apply Array.toList_inj.1
  rw [Lib.extract_data]
  simp
  exact List.take_of_length_le (by simp)
theorem letShort (s : ByteArray) (w : World) (hs : s.size ≤ maxLen) : Calls Try.prog 59 #[.string s] w fun e w' => e = .returned (.string (mkS (s.data.toList.take 9))) ∧ w = w' := by
  unfold maxLen at hs
  by_cases h : s.size ≤ 9
  · have HE := Lib.hid (fun n => short_cut' s n h)
    go_enter Try.func59, Try.ntmps59
    go_wp2
    go_ret
    exact ⟨ret_s (HE.out _ (by omega)), rfl⟩
  · have HE := Lib.hid (fun n => short_cut s n (by omega))
    go_enter Try.func59, Try.ntmps59
    go_wp2
    go_ret
    exact ⟨ret_s (HE.out _ (by omega)), rfl⟩
theorem refShort (s : ByteArray) (w : World) (hs : s.size ≤ maxLen) : Calls Try.prog 61 #[.string s] w fun e w' => e = .returned (.string (mkS (s.data.toList.take 9))) ∧ w = w' := by
  unfold maxLen at hs
  by_cases h : s.size ≤ 9
  · have HE := Lib.hid (short_same s h)
    go_enter Try.func61, Try.ntmps61
    go_wp2
    go_ret
    exact ⟨ret_s HE.out.symm, rfl⟩
  · have HE := Lib.hid (fun n => short_cut s n (by omega))
    go_enter Try.func61, Try.ntmps61
    go_wp2
    go_ret
    exact ⟨ret_s (HE.out _ rfl), rfl⟩
/-- A word's key. -/
def keyS (s : ByteArray) : ByteArray := mkS (keyW s.data.toList)
theorem lowS_size (s : ByteArray) : (lowS s).size = s.size := by
  show (lowS s).data.size = _
  simp [lowS]
theorem keyS_low (s : ByteArray) : mkS ((lowS s).data.toList.take 9) = keyS s := by unfold keyS keyW lowS; simp
theorem dictPlain (s : ByteArray) (w : World) (hs : s.size ≤ maxLen) : Calls Try.prog 36 #[.string s] w fun e w' => e = .returned (.string (keyS s)) ∧ Below w.heap.size w w' := by
  have HS := Lib.hid (fun w => letShort (lowS s) w (by rw [lowS_size]; exact hs))
  rw [keyS_low] at HS
  go_enter Try.func36, Try.ntmps36
  go_wp2_with (first | (go_at_call 60; refine (letLower _ _ hs).mono ?_; rintro e w' ⟨rfl, hb⟩; have HB := Lib.hid hb; clear hb) | (go_at_call 59; refine (HS.out _).mono ?_; rintro e w' ⟨rfl, rfl⟩))
  go_ret
  exact ⟨rfl, HB.out⟩
theorem refKey35 (s : ByteArray) (w : World) (hs : s.size ≤ maxLen) : Calls Try.prog 38 #[.string s] w fun e w' => e = .returned (.string (keyS s)) ∧ Below w.heap.size w w' := by
  have HS := Lib.hid (fun w => refShort (lowS s) w (by rw [lowS_size]; exact hs))
  rw [keyS_low] at HS
  go_enter Try.func38, Try.ntmps38
  go_wp2_with (first | (go_at_call 19; refine (refLower _ _ hs).mono ?_; rintro e w' ⟨rfl, hb⟩; have HB := Lib.hid hb; clear hb) | (go_at_call 61; refine (HS.out _).mono ?_; rintro e w' ⟨rfl, rfl⟩))
  go_ret
  exact ⟨rfl, HB.out⟩
/-! ### Texts, compared -/
theorem compare_cmpS : ∀ (a b : List UInt8), Lib.compareBytes a b = cmpS a b
  | [], [] => by decide
  | [], y :: t => by
    have : ltS [] (y :: t) = true := (ltS_iff _ _).2 (List.nil_lt_cons ..)
    unfold cmpS; rw [this]; rfl
  | x :: s, [] => by
    have : ltS [] (x :: s) = true := (ltS_iff _ _).2 (List.nil_lt_cons ..)
    unfold cmpS; rw [this, ltS_asymm this]; rfl
  | x :: s, y :: t => by
    have ih := compare_cmpS s t
    have h1 : ltS (x :: s) (y :: t) = true ↔ x < y ∨ x = y ∧ s < t := (ltS_iff _ _).trans List.cons_lt_cons_iff
    have h2 : ltS (y :: t) (x :: s) = true ↔ y < x ∨ y = x ∧ t < s := (ltS_iff _ _).trans List.cons_lt_cons_iff
    rw [Lib.compareBytes]
    by_cases hxy : x < y
    · rw [if_pos hxy]; unfold cmpS; rw [h1.2 (.inl hxy)]; rfl
    · rw [if_neg hxy]
      by_cases hyx : y < x
      · have h3 := h2.2 (.inl hyx)
        rw [if_pos hyx]; unfold cmpS; rw [h3, ltS_asymm h3]; rfl
      · rw [if_neg hyx, ih]
        have hxe : x = y := by
          have a1 := UInt8.not_lt.1 hxy
          have a2 := UInt8.not_lt.1 hyx
          exact UInt8.le_antisymm a2 a1
        subst hxe
        have h1' : ltS (x :: s) (x :: t) = ltS s t := by
          rw [Bool.eq_iff_iff, h1, ltS_iff]
          exact ⟨fun h => h.elim (fun h => absurd h hxy) (fun h => h.2), fun h => .inr ⟨rfl, h⟩⟩
        have h2' : ltS (x :: t) (x :: s) = ltS t s := by
          rw [Bool.eq_iff_iff, h2, ltS_iff]
          exact ⟨fun h => h.elim (fun h => absurd h hxy) (fun h => h.2), fun h => .inr ⟨rfl, h⟩⟩
        unfold cmpS; rw [h1', h2']
end Go.Proofs.Ytlkdphbgephfiaa
