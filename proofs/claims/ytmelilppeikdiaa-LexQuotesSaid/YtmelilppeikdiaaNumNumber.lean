/- Contracts of clewref01.Number, num.Number and of the closure in num.Parse. -/
import Derived.Test.YtmelilppeikdiaaNumForm
import Derived.Lib.Strings
namespace Go.Proofs.Ytmelilppeikdiaa
open Go.RowKit Go.PlainAid

theorem data_cons {s : ByteArray} (hz : 0 < s.size) : ∃ t, s.data.toList = s[0] :: t := by
  have h : s.data.toList[0]? = some s[0] := by
    rw [List.getElem?_eq_getElem (by simpa using hz)]; rfl
  cases e : s.data.toList with
  | nil => rw [e] at h; simp at h
  | cons a t => rw [e] at h; simp at h; exact ⟨t, by rw [h]⟩
theorem bt_zero {s : ByteArray} (hz : 0 < s.size) : bt s 0 = (s[0].toNat : Int) := by unfold bt; rw [dif_pos hz]
theorem u8_48 (c : UInt8) : c = 48 ↔ (c.toNat : Int) = 48 := by
  constructor
  · rintro rfl; rfl
  · intro h; apply UInt8.toNat_inj.1; have : c.toNat = 48 := by omega
    rw [this]; rfl
theorem ext01 {s : ByteArray} (hz : 0 < s.size) : (s.extract 0 1).toList = [48] ↔ bt s 0 = 48 := by
  obtain ⟨t, ht⟩ := data_cons hz
  rw [Lib.extract_toList, ht, bt_zero hz]; simp [u8_48]
theorem one48 {s : ByteArray} (hz : 0 < s.size) : s.toList = [48] ↔ s.size = 1 ∧ bt s 0 = 48 := by
  obtain ⟨t, ht⟩ := data_cons hz
  rw [Lib.toList_data, bt_zero hz]
  have hl : s.size = t.length + 1 := by rw [Lib.size_eq, ht]; rfl
  rw [ht, hl]; simp [u8_48, and_comm]
theorem toList_ne {s : ByteArray} (hz : 0 < s.size) : s.toList.isEmpty = false := by
  obtain ⟨t, ht⟩ := data_cons hz
  rw [Lib.toList_data, ht]; rfl
theorem toList_ne' {s : ByteArray} (hz : 0 < s.size) : ¬ s.toList = [] := by
  obtain ⟨t, ht⟩ := data_cons hz
  rw [Lib.toList_data, ht]; simp

theorem below_any (s : ByteArray) (a : Addr) (w : World) (hs : s.size ≤ maxLen) (hc : w.cell? a = some (.string s)) : Calls Try.prog 63 #[.pointer (some a)] w fun e w' => e = .returned (.bool (negB s)) ∧ w = w' := by
  unfold maxLen at hs
  have hb := get_bt s
  by_cases hz : 0 < s.size
  · have h1 := toList_ne hz
    have h2 := toList_ne' hz
    go_enter Try.func63, Try.ntmps63
    go_wp2
    go_ret
    exact ⟨ret_b (by simp [negB, hz]; rfl), rfl⟩
  · have : s = ByteArray.empty := by
      have h0 : s.size = 0 := by omega
      simpa using h0
    subst this
    go_enter Try.func63, Try.ntmps63
    go_wp2
    go_ret
    exact ⟨ret_b rfl, rfl⟩

theorem refNumber_no (s : ByteArray) (most : Int) (w : World) (hs : s.size ≤ maxLen) (hf : form s = false) : Calls Try.prog 57 #[.string s, .int .u64 most] w fun e w' => e = .returned (.tuple #[.int .u64 (numN s most), .int .i64 (numE s most)]) ∧ w = w' := by
  have H := Lib.hid (numE_form (most := most) hf)
  go_enter Try.func57, Try.ntmps57
  go_wp2_with (go_at_call 65; refine (refForm _ _ hs).mono ?_; rintro e w' ⟨rfl, rfl⟩)
  go_ret2
  exact ⟨ret_ii H.out.2.symm H.out.1.symm, rfl⟩

theorem wrap_u64_pos (n : Int) : 0 ≤ IntKind.u64.wrap n := by rw [IntKind.wrap_u64]; omega

set_option maxHeartbeats 800000 in
theorem refNumber_yes (s : ByteArray) (most : Int) (w : World) (hs : s.size ≤ maxLen) (h0 : 0 ≤ most) (h1 : most ≤ 18446744073709551615) (hf : form s = true) : Calls Try.prog 57 #[.string s, .int .u64 most] w fun e w' => e = .returned (.tuple #[.int .u64 (numN s most), .int .i64 (numE s most)]) ∧ w = w' := by
  have hs' := hs
  unfold maxLen at hs
  have hb := get_bt s
  have HF := Lib.hid (form_dgs hf)
  have HO := Lib.hid (fun (h : most < nv s s.size) => numE_over hf h)
  have HK := Lib.hid (fun (h : nv s s.size ≤ most) => numE_ok hf h)
  go_enter Try.func57, Try.ntmps57
  go_wp2_with (go_at_call 65; refine (refForm _ _ hs').mono ?_; rintro e w' ⟨rfl, rfl⟩)
  go_loop [6, 7] (fun n i => ∃ k : Nat, k ≤ s.size ∧ i = .int .i64 k ∧ n = .int .u64 (nv s k) ∧ 0 ≤ nv s k ∧ nv s k ≤ most) (fun _ i => s.size - (intOf i).toNat)
  case atStart => exact ⟨0, Nat.zero_le _, rfl, rfl, Int.le_refl _, h0⟩
  case round =>
    obtain ⟨k, hk, rfl, rfl, hn0, hnm⟩ := hrel
    by_cases hlt : k < s.size
    · have hbd := dgs_bd HF.out hlt
      have hm := Lib.hid (nv_mono HF.out (show k + 1 ≤ s.size by omega))
      have hst := Lib.hid (show nv s (k + 1) = 10 * nv s k + (bt s k - 48) from rfl)
      have hw := wrap_u64_pos (most - (bt s k - 48))
      by_cases cA : most / 10 < nv s k
      · go_wp2
        go_ret2
        have h := HO.out (by have := hm.out; have := hst.out; omega)
        exact ⟨ret_ii h.2.symm h.1.symm, rfl⟩
      · by_cases cD : most < bt s k - 48
        · go_wp2
          all_goals
            go_ret2
            have h := HO.out (by have := hm.out; have := hst.out; omega)
            exact ⟨ret_ii h.2.symm h.1.symm, rfl⟩
        · by_cases cB : most - (bt s k - 48) < 10 * nv s k
          · go_wp2
            go_ret2
            have h := HO.out (by have := hm.out; have := hst.out; omega)
            exact ⟨ret_ii h.2.symm h.1.symm, rfl⟩
          · go_wp2
            go_round
            case rel => exact ⟨k + 1, by omega, by go_num, by rw [hst.out], by rw [hst.out]; omega, by rw [hst.out]; omega⟩
            case measure => simp [intOf]; omega
    · have : k = s.size := by omega
      subst this
      have h := Lib.hid (HK.out hnm)
      go_wp2
      go_ret2
      exact ⟨ret_ii h.out.2.symm h.out.1.symm, rfl⟩

theorem refNumber (s : ByteArray) (most : Int) (w : World) (hs : s.size ≤ maxLen) (h0 : 0 ≤ most) (h1 : most ≤ 18446744073709551615) : Calls Try.prog 57 #[.string s, .int .u64 most] w fun e w' => e = .returned (.tuple #[.int .u64 (numN s most), .int .i64 (numE s most)]) ∧ w = w' := by
  cases hf : form s with
  | false => exact refNumber_no s most w hs hf
  | true => exact refNumber_yes s most w hs h0 h1 hf
end Go.Proofs.Ytmelilppeikdiaa
