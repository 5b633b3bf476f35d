/- Contracts of clewref09: places, sorts of bytes, gaps, rows. -/
import Derived.Test.YtmelilppeikdiaaLexPlain2
namespace Go.Proofs.Ytmelilppeikdiaa
open Go.RowKit Go.PlainAid

theorem refMay (c : Int) (w : World) : Calls Try.prog 43 #[.int .u8 c] w fun e w' => e = .returned (.bool (cMay c)) ∧ w = w' := by
  go_enter Try.func43, Try.ntmps43
  go_wp2
  all_goals
    go_ret
    exact ⟨ret_b (by rw [Bool.eq_iff_iff]; simp [cMay]; try omega), rfl⟩
theorem refDigit (c : Int) (w : World) : Calls Try.prog 45 #[.int .u8 c] w fun e w' => e = .returned (.bool (digitB c)) ∧ w = w' := by
  go_enter Try.func45, Try.ntmps45
  go_wp2
  all_goals
    go_ret
    exact ⟨ret_b (by rw [Bool.eq_iff_iff]; simp [digitB]; try omega), rfl⟩
theorem refSmall (c : Int) (w : World) : Calls Try.prog 48 #[.int .u8 c] w fun e w' => e = .returned (.bool (smallB c)) ∧ w = w' := by
  go_enter Try.func48, Try.ntmps48
  go_wp2
  all_goals
    go_ret
    exact ⟨ret_b (by rw [Bool.eq_iff_iff]; simp [smallB]; try omega), rfl⟩
theorem refBig (c : Int) (w : World) : Calls Try.prog 56 #[.int .u8 c] w fun e w' => e = .returned (.bool (greatB c)) ∧ w = w' := by
  go_enter Try.func56, Try.ntmps56
  go_wp2
  all_goals
    go_ret
    exact ⟨ret_b (by rw [Bool.eq_iff_iff]; simp [greatB]; try omega), rfl⟩

theorem refAt (s : ByteArray) (i : Nat) (w : World) (hi : i ≤ s.size) (hs : s.size ≤ 1000000) : Calls Try.prog 26 #[.string s, .int .i64 i] w fun e w' => e = .returned (.tuple #[.int .i64 (ln s i), .int .i64 (cl s i)]) ∧ w = w' := by
  have hb := get_bt s
  go_enter Try.func26, Try.ntmps26
  go_wp2
  go_loop [6, 7, 8] (fun l c k => ∃ n : Nat, n ≤ i ∧ k = .int .i64 n ∧ l = .int .i64 (ln s n) ∧ c = .int .i64 (cl s n)) (fun _ _ k => i - (intOf k).toNat)
  case atStart => exact ⟨0, Nat.zero_le _, rfl, rfl, rfl⟩
  case round =>
    obtain ⟨n, hn, rfl, rfl, rfl⟩ := hrel
    have hl := ln_bd s n
    have hc := cl_bd s n
    by_cases hlt : n < i
    · by_cases h10 : bt s n = 10
      · have hL := Lib.hid (show ln s (n + 1) = ln s n + 1 by rw [ln, if_pos h10])
        have hC := Lib.hid (show cl s (n + 1) = 1 by rw [cl, if_pos h10])
        have h10' : (bt s n == 10) = true := by simp [h10]
        clear h10
        go_wp2
        go_round
        case rel => exact ⟨n + 1, by omega, by go_num, by rw [hL.out], by rw [hC.out]⟩
        case measure => simp [intOf]; omega
      · have hL := Lib.hid (show ln s (n + 1) = ln s n by rw [ln, if_neg h10])
        have hC := Lib.hid (show cl s (n + 1) = cl s n + 1 by rw [cl, if_neg h10])
        have h10' : (bt s n == 10) = false := by simp [h10]
        clear h10
        go_wp2
        go_round
        case rel => exact ⟨n + 1, by omega, by go_num, by rw [hL.out], by rw [hC.out]⟩
        case measure => simp [intOf]; omega
    · have hni : n = i := by omega
      subst hni
      go_wp2
      go_ret2
      exact ⟨rfl, rfl⟩
end Go.Proofs.Ytmelilppeikdiaa
