/- Contracts of num.Parse and clewref01.Parse: the value of a text, or the error's number. -/
import Derived.Test.YtmelilppeikdiaaDoorNumParse
namespace Go.Proofs.YtmelilppeikdiaaDoor
open Go.RowKit Go.PlainAid

theorem numNumber (s : ByteArray) (most : Int) (w : World) (hs : s.size ≤ maxLen) (h0 : 0 ≤ most) (h1 : most ≤ 18446744073709551615) : Calls Tryd.prog 48 #[.string s, .int .u64 most] w fun e w' => e = .returned (.tuple #[.int .u64 (numN s most), .int .i64 (numE s most)]) ∧ w = w' := by
  by_cases hz : 0 < s.size
  · by_cases hc : 1 < s.size ∧ bt s 0 = 48
    · exact numNumber_zero s most w hs hc.1 hc.2
    · exact numNumber_loop s most w hs h0 h1 hz hc
  · have : s = ByteArray.empty := by
      have h0 : s.size = 0 := by omega
      simpa using h0
    subst this
    exact numNumber_empty most w

theorem ext_size (s : ByteArray) : (s.extract 1 s.size).size ≤ s.size := by simp
theorem neg_pos {s : ByteArray} (h : negB s = true) : 0 < s.size := by simp only [negB, Bool.and_eq_true, decide_eq_true_eq] at h; exact h.1

theorem numParse_pos (s : ByteArray) (w : World) (hs : s.size ≤ maxLen) (hn : negB s = false) : Calls Tryd.prog 42 #[.string s] w fun e w' => e = .returned (.tuple #[.int .i64 (parV s), .int .i64 (parE s)]) ∧ w.alloc (.cells #[.string s] 9) = w' := by
  have HV : Hid (parV s = numN s 32767) := Lib.hid (by simp [parV, hn])
  have HE : Hid (parE s = numE s 32767) := Lib.hid (by simp [parE, hn])
  have hb := numN_bd s 32767 (by omega)
  have HZ := Lib.hid (numN_zero s 32767)
  have hs' := hs
  unfold maxLen at hs
  by_cases he : numE s 32767 = 0
  · have he' : (numE s 32767 != 0) = false := by simp [he]
    have HE0 := Lib.hid he
    clear he
    go_enter Tryd.func42, Tryd.ntmps42
    go_wp2_with (first | (go_at_call 47; refine (below_any s _ _ hs' (by simp)).mono ?_; rintro e w' ⟨rfl, rfl⟩) | (go_at_call 48; refine (numNumber _ _ _ hs' (by omega) (by omega)).mono ?_; rintro e w' ⟨rfl, rfl⟩))
    go_ret2
    exact ⟨ret_ii HV.out.symm (by rw [HE.out, HE0.out]), rfl⟩
  · have he' : (numE s 32767 != 0) = true := by simp [he]
    have HZ0 := Lib.hid (HZ.out he)
    clear he
    go_enter Tryd.func42, Tryd.ntmps42
    go_wp2_with (first | (go_at_call 47; refine (below_any s _ _ hs' (by simp)).mono ?_; rintro e w' ⟨rfl, rfl⟩) | (go_at_call 48; refine (numNumber _ _ _ hs' (by omega) (by omega)).mono ?_; rintro e w' ⟨rfl, rfl⟩))
    go_ret2
    exact ⟨ret_ii (by rw [HV.out, HZ0.out]) HE.out.symm, rfl⟩

theorem numParse_neg (s : ByteArray) (w : World) (hs : s.size ≤ maxLen) (hn : negB s = true) : Calls Tryd.prog 42 #[.string s] w fun e w' => e = .returned (.tuple #[.int .i64 (parV s), .int .i64 (parE s)]) ∧ w.alloc (.cells #[.string s] 9) = w' := by
  have hz := neg_pos hn
  have hxs : (s.extract 1 s.size).size ≤ maxLen := Nat.le_trans (ext_size s) hs
  have hb := numN_bd (s.extract 1 s.size) 32768 (by omega)
  have HV0 : Hid (numE (s.extract 1 s.size) 32768 ≠ 0 → parV s = 0) := Lib.hid (fun h => by simp [parV, hn, h])
  have HV1 : Hid (numE (s.extract 1 s.size) 32768 = 0 → numN (s.extract 1 s.size) 32768 = 0 → parV s = 0) := Lib.hid (fun h h' => by simp [parV, hn, h'])
  have HV2 : Hid (numE (s.extract 1 s.size) 32768 = 0 → numN (s.extract 1 s.size) 32768 ≠ 0 → parV s = - numN (s.extract 1 s.size) 32768) := Lib.hid (fun h h' => by simp [parV, hn, h, h'])
  have HE0 : Hid (numE (s.extract 1 s.size) 32768 ≠ 0 → parE s = numE (s.extract 1 s.size) 32768) := Lib.hid (fun h => by simp [parE, hn, h])
  have HE1 : Hid (numE (s.extract 1 s.size) 32768 = 0 → numN (s.extract 1 s.size) 32768 = 0 → parE s = 4) := Lib.hid (fun h h' => by simp [parE, hn, h, h'])
  have HE2 : Hid (numE (s.extract 1 s.size) 32768 = 0 → numN (s.extract 1 s.size) 32768 ≠ 0 → parE s = 0) := Lib.hid (fun h h' => by simp [parE, hn, h, h'])
  have hs' := hs
  unfold maxLen at hs
  by_cases he : numE (s.extract 1 s.size) 32768 = 0
  · have he' : (numE (s.extract 1 s.size) 32768 != 0) = false := by simp [he]
    by_cases hv : numN (s.extract 1 s.size) 32768 = 0
    · have hv' : (numN (s.extract 1 s.size) 32768 == 0) = true := by simp [hv]
      have K1 := Lib.hid (HV1.out he hv)
      have K2 := Lib.hid (HE1.out he hv)
      clear he hv
      go_enter Tryd.func42, Tryd.ntmps42
      go_wp2_with (first | (go_at_call 47; refine (below_any s _ _ hs' (by simp)).mono ?_; rintro e w' ⟨rfl, rfl⟩) | (go_at_call 48; refine (numNumber _ _ _ hxs (by omega) (by omega)).mono ?_; rintro e w' ⟨rfl, rfl⟩))
      go_ret2
      exact ⟨ret_ii K1.out.symm K2.out.symm, rfl⟩
    · have hv' : (numN (s.extract 1 s.size) 32768 == 0) = false := by simp [hv]
      have K1 := Lib.hid (HV2.out he hv)
      have K2 := Lib.hid (HE2.out he hv)
      clear he hv
      go_enter Tryd.func42, Tryd.ntmps42
      go_wp2_with (first | (go_at_call 47; refine (below_any s _ _ hs' (by simp)).mono ?_; rintro e w' ⟨rfl, rfl⟩) | (go_at_call 48; refine (numNumber _ _ _ hxs (by omega) (by omega)).mono ?_; rintro e w' ⟨rfl, rfl⟩))
      go_ret2
      exact ⟨ret_ii K1.out.symm K2.out.symm, rfl⟩
  · have he' : (numE (s.extract 1 s.size) 32768 != 0) = true := by simp [he]
    have K1 := Lib.hid (HV0.out he)
    have K2 := Lib.hid (HE0.out he)
    clear he
    go_enter Tryd.func42, Tryd.ntmps42
    go_wp2_with (first | (go_at_call 47; refine (below_any s _ _ hs' (by simp)).mono ?_; rintro e w' ⟨rfl, rfl⟩) | (go_at_call 48; refine (numNumber _ _ _ hxs (by omega) (by omega)).mono ?_; rintro e w' ⟨rfl, rfl⟩))
    go_ret2
    exact ⟨ret_ii K1.out.symm K2.out.symm, rfl⟩
theorem numParse (s : ByteArray) (w : World) (hs : s.size ≤ maxLen) : Calls Tryd.prog 42 #[.string s] w fun e w' => e = .returned (.tuple #[.int .i64 (parV s), .int .i64 (parE s)]) ∧ w.alloc (.cells #[.string s] 9) = w' := by
  cases hn : negB s with
  | false => exact numParse_pos s w hs hn
  | true => exact numParse_neg s w hs hn

end Go.Proofs.YtmelilppeikdiaaDoor
