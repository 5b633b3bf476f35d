/- Contracts of dict.plain and clewref35.key: a word as it stands in a dictionary. -/
import Derived.Test.YtjggklfegcejhaaGreatDictPlain
import Derived.Test.YtjggklfegcejhaaGreatLower
import Derived.Test.YtjggklfegcejhaaGreatShelf
namespace Go.Proofs.YtjggklfegcejhaaGreat
open Go.RowKit Go.PlainAid
set_option linter.unusedVariables false
set_option linter.unusedSimpArgs false

def mkY (l : List UInt8) : ByteArray := ⟨l.toArray⟩
theorem short_same (s : ByteArray) (h : s.size ≤ 9) : mkY (s.data.toList.take 9) = s := by
  unfold mkY
  rw [List.take_of_length_le (by simpa using h)]
theorem short_cut (s : ByteArray) (n : Nat) (h : 9 < s.size) (hn : n = 9) : s.extract 0 n = mkY (s.data.toList.take 9) := by
  subst hn
  unfold mkY
  apply ByteArray.ext
  apply Array.toList_inj.1
  rw [Lib.extract_data]; simp
theorem short_cut' (s : ByteArray) (n : Nat) (h : s.size ≤ 9) (hn : n = s.size) : s.extract 0 n = mkY (s.data.toList.take 9) := by
  subst hn
  rw [short_same s h]
  apply ByteArray.ext
  apply Array.toList_inj.1
  rw [Lib.extract_data]
  simp
  exact List.take_of_length_le (by simp)
theorem letShort (s : ByteArray) (w : World) (hs : s.size ≤ maxLen) : Calls Tryz.prog 67 #[.string s] w fun e w' => e = .returned (.string (mkY (s.data.toList.take 9))) ∧ w = w' := by
  unfold maxLen at hs
  by_cases h : s.size ≤ 9
  · have HE := Lib.hid (fun n => short_cut' s n h)
    go_enter Tryz.func67, Tryz.ntmps67
    go_wp2
    go_ret
    exact ⟨ret_s (HE.out _ (by omega)), rfl⟩
  · have HE := Lib.hid (fun n => short_cut s n (by omega))
    go_enter Tryz.func67, Tryz.ntmps67
    go_wp2
    go_ret
    exact ⟨ret_s (HE.out _ (by omega)), rfl⟩
theorem refShort (s : ByteArray) (w : World) (hs : s.size ≤ maxLen) : Calls Tryz.prog 65 #[.string s] w fun e w' => e = .returned (.string (mkY (s.data.toList.take 9))) ∧ w = w' := by
  unfold maxLen at hs
  by_cases h : s.size ≤ 9
  · have HE := Lib.hid (short_same s h)
    go_enter Tryz.func65, Tryz.ntmps65
    go_wp2
    go_ret
    exact ⟨ret_s HE.out.symm, rfl⟩
  · have HE := Lib.hid (fun n => short_cut s n (by omega))
    go_enter Tryz.func65, Tryz.ntmps65
    go_wp2
    go_ret
    exact ⟨ret_s (HE.out _ rfl), rfl⟩
/-- A word's key. -/
def keyS (s : ByteArray) : ByteArray := mkY (keyW s.data.toList)
theorem lowS_size (s : ByteArray) : (lowS s).size = s.size := by
  show (lowS s).data.size = _
  simp [lowS]
theorem keyS_low (s : ByteArray) : mkY ((lowS s).data.toList.take 9) = keyS s := by unfold keyS keyW lowS; simp
theorem dictPlain (s : ByteArray) (w : World) (hs : s.size ≤ maxLen) : Calls Tryz.prog 46 #[.string s] w fun e w' => e = .returned (.string (keyS s)) ∧ Below w.heap.size w w' := by
  have HS := Lib.hid (fun w => letShort (lowS s) w (by rw [lowS_size]; exact hs))
  rw [keyS_low] at HS
  go_enter Tryz.func46, Tryz.ntmps46
  go_wp2_with (first | (go_at_call 68; refine (letLower _ _ hs).mono ?_; rintro e w' ⟨rfl, hb⟩; have HB := Lib.hid hb; clear hb) | (go_at_call 67; refine (HS.out _).mono ?_; rintro e w' ⟨rfl, rfl⟩))
  go_ret
  exact ⟨rfl, HB.out⟩
end Go.Proofs.YtjggklfegcejhaaGreat
