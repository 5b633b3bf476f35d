/- Contracts of clewref01.form, clewref01.Number, num.Number, and of the closure in num.Parse. -/
import Derived.Test.YtmelilppeikdiaaNumDiv
import Derived.Test.YtmelilppeikdiaaNumPlain
namespace Go.Proofs.Ytmelilppeikdiaa
open Go.RowKit Go.PlainAid

theorem form_no0 {s : ByteArray} (h : s.size = 0) : form s = false := by simp [form, h]
theorem form_no48 {s : ByteArray} (h : 1 < s.size) (h0 : bt s 0 = 48) : form s = false := by simp [form, h, h0]
theorem form_at {s : ByteArray} (hz : 0 < s.size) (h : ¬ (1 < s.size ∧ bt s 0 = 48)) : form s = dgs s s.size := by
  unfold form
  have h1 : decide (0 < s.size) = true := decide_eq_true hz
  have h2 : (decide (1 < s.size) && decide (bt s 0 = 48)) = false := by
    by_cases a : 1 < s.size
    · have : ¬ bt s 0 = 48 := fun e => h ⟨a, e⟩
      simp [this]
    · simp [a]
  rw [h1, h2]; rfl

set_option maxHeartbeats 400000 in
theorem refForm_loop (s : ByteArray) (w : World) (hs : s.size ≤ maxLen) (hz : 0 < s.size) (hc : s.size = 1 ∨ (bt s 0 == 48) = false) : Calls Try.prog 65 #[.string s] w fun e w' => e = .returned (.bool (form s)) ∧ w = w' := by
  have hf : form s = dgs s s.size := form_at hz (fun ⟨a, b⟩ => hc.elim (fun c => by omega) (fun c => by simp [b] at c))
  rw [hf]; clear hf
  unfold maxLen at hs
  have hz0 : ((s.size : Int) == 0) = false := by rw [beq_eq_false_iff_ne]; omega
  have hb := get_bt s
  have H : Hid (s.size = 1 ∨ (bt s 0 == 48) = false) := hc
  clear hc
  by_cases h1 : 1 < s.size
  · have h48 : (bt s 0 == 48) = false := H.elim (fun c => by omega) (fun c => c)
    go_enter Try.func65, Try.ntmps65
    go_wp2
    go_loop [3] (fun i => ∃ k : Nat, k ≤ s.size ∧ i = .int .i64 k ∧ dgs s k = true) (fun i => s.size - (intOf i).toNat)
    case atStart => exact ⟨0, Nat.zero_le _, rfl, rfl⟩
    case round =>
      obtain ⟨k, hk, rfl, hd⟩ := hrel
      by_cases hlt : k < s.size
      · rcases (show bt s k < 48 ∨ 57 < bt s k ∨ (48 ≤ bt s k ∧ bt s k ≤ 57) by omega) with c | c | c
        · have hno := Lib.hid (dgs_no (s := s) hlt (by omega))
          go_wp2
          go_ret
          exact ⟨ret_b hno.out.symm, rfl⟩
        · have hno := Lib.hid (dgs_no (s := s) hlt (by omega))
          go_wp2
          go_ret
          exact ⟨ret_b hno.out.symm, rfl⟩
        · go_wp2
          go_round
          case rel => exact ⟨k + 1, by omega, by go_num, by simp only [dgs, hd, Bool.true_and]; simpa using c⟩
          case measure => simp [intOf]; omega
      · have : k = s.size := by omega
        subst this
        go_wp2
        go_ret
        exact ⟨ret_b rfl, rfl⟩
  · go_enter Try.func65, Try.ntmps65
    go_wp2
    go_loop [3] (fun i => ∃ k : Nat, k ≤ s.size ∧ i = .int .i64 k ∧ dgs s k = true) (fun i => s.size - (intOf i).toNat)
    case atStart => exact ⟨0, Nat.zero_le _, rfl, rfl⟩
    case round =>
      obtain ⟨k, hk, rfl, hd⟩ := hrel
      by_cases hlt : k < s.size
      · rcases (show bt s k < 48 ∨ 57 < bt s k ∨ (48 ≤ bt s k ∧ bt s k ≤ 57) by omega) with c | c | c
        · have hno := Lib.hid (dgs_no (s := s) hlt (by omega))
          go_wp2
          go_ret
          exact ⟨ret_b hno.out.symm, rfl⟩
        · have hno := Lib.hid (dgs_no (s := s) hlt (by omega))
          go_wp2
          go_ret
          exact ⟨ret_b hno.out.symm, rfl⟩
        · go_wp2
          go_round
          case rel => exact ⟨k + 1, by omega, by go_num, by simp only [dgs, hd, Bool.true_and]; simpa using c⟩
          case measure => simp [intOf]; omega
      · have : k = s.size := by omega
        subst this
        go_wp2
        go_ret
        exact ⟨ret_b rfl, rfl⟩

theorem refForm (s : ByteArray) (w : World) (hs : s.size ≤ maxLen) : Calls Try.prog 65 #[.string s] w fun e w' => e = .returned (.bool (form s)) ∧ w = w' := by
  by_cases hz : 0 < s.size
  · by_cases hc : 1 < s.size ∧ bt s 0 = 48
    · rw [form_no48 hc.1 hc.2]
      obtain ⟨h1, h48⟩ := hc
      unfold maxLen at hs
      have h48' : (bt s 0 == 48) = true := by simp [h48]
      clear h48
      have hz0 : ((s.size : Int) == 0) = false := by rw [beq_eq_false_iff_ne]; omega
      have hb := get_bt s
      go_enter Try.func65, Try.ntmps65
      go_wp2
      go_ret
      exact ⟨rfl, rfl⟩
    · exact refForm_loop s w hs hz (by
        by_cases e : s.size = 1
        · exact .inl e
        · exact .inr (by rw [beq_eq_false_iff_ne]; exact fun h => hc ⟨by omega, h⟩))
  · have hs0 : s.size = 0 := by omega
    rw [form_no0 hs0]
    have : s = ByteArray.empty := by simpa using hs0
    subst this
    go_enter Try.func65, Try.ntmps65
    go_wp2
    go_ret
    exact ⟨rfl, rfl⟩
end Go.Proofs.Ytmelilppeikdiaa
