/- Contracts of clewref01.Number, num.Number and of the closure in num.Parse. -/
import Derived.Test.YtbcpopakdlplgaaDoorNumForm
import Derived.Lib.Strings
namespace Go.Proofs.YtbcpopakdlplgaaDoor
open Go.RowKit Go.PlainAid

theorem data_cons {s : ByteArray} (hz : 0 < s.size) : ∃ t, s.data.toList = s[0] :: t := by
  have h : s.data.toList[0]? = some s[0] := by
    rw [List.getElem?_eq_getElem (by simpa using hz)]; rfl
  cases e : s.data.toList with
  | nil => rw [e] at h; simp at h
  | cons a t => rw [e] at h; simp at h; exact ⟨t, by rw [h]⟩
theorem bt_zero {s : ByteArray} (hz : 0 < s.size) : bt s 0 = (s[0].toNat : Int) := by unfold bt; rw [dif_pos hz]
theorem u8_48 (c : UInt8) : c = 48 ↔ (c.toNat : Int) = 48 := by
  constructor
  · rintro rfl; rfl
  · intro h; apply UInt8.toNat_inj.1; have : c.toNat = 48 := by omega
    rw [this]; rfl
theorem ext01 {s : ByteArray} (hz : 0 < s.size) : (s.extract 0 1).toList = [48] ↔ bt s 0 = 48 := by
  obtain ⟨t, ht⟩ := data_cons hz
  rw [Lib.extract_toList, ht, bt_zero hz]; simp [u8_48]
theorem one48 {s : ByteArray} (hz : 0 < s.size) : s.toList = [48] ↔ s.size = 1 ∧ bt s 0 = 48 := by
  obtain ⟨t, ht⟩ := data_cons hz
  rw [Lib.toList_data, bt_zero hz]
  have hl : s.size = t.length + 1 := by rw [Lib.size_eq, ht]; rfl
  rw [ht, hl]; simp [u8_48, and_comm]
theorem toList_ne {s : ByteArray} (hz : 0 < s.size) : s.toList.isEmpty = false := by
  obtain ⟨t, ht⟩ := data_cons hz
  rw [Lib.toList_data, ht]; rfl
theorem toList_ne' {s : ByteArray} (hz : 0 < s.size) : ¬ s.toList = [] := by
  obtain ⟨t, ht⟩ := data_cons hz
  rw [Lib.toList_data, ht]; simp

theorem wrap_u64_pos (n : Int) : 0 ≤ IntKind.u64.wrap n := by rw [IntKind.wrap_u64]; omega

end Go.Proofs.YtbcpopakdlplgaaDoor
