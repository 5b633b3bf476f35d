/- Contracts of clewref09.row and clewref09.fail. -/
import Derived.Test.YtmelilppeikdiaaRefLex
import Derived.Test.YtmelilppeikdiaaDir
namespace Go.Proofs.Ytmelilppeikdiaa
open Go.RowKit Go.PlainAid

/-- The bytes of a row: digits alone, or of names. -/
def rowP (name : Bool) (c : Int) : Bool := digitB c || (name && (smallB c || decide (c = 95)))

set_option maxHeartbeats 1000000 in
theorem refRow (s : ByteArray) (i : Nat) (name : Bool) (w : World) (hi : i ≤ s.size) (hs : s.size ≤ 1000000) : Calls Try.prog 46 #[.string s, .int .i64 i, .bool name] w fun e w' => e = .returned (.int .i64 (((i + runL (rowP name) (sfx s i) : Nat)) : Int)) ∧ w = w' := by
  have hb := get_bt s
  obtain ⟨J, hJ⟩ : ∃ J, i + runL (rowP name) (sfx s i) = J := ⟨_, rfl⟩
  rw [hJ]
  have HJ := Lib.hid hJ
  clear hJ
  go_enter Try.func46, Try.ntmps46
  go_wp2
  go_loop [1] (fun p => ∃ k : Nat, k ≤ s.size ∧ p = .int .i64 k ∧ Hid (k + runL (rowP name) (sfx s k) = J)) (fun p => s.size - (intOf p).toNat)
  case atStart => exact ⟨i, hi, rfl, HJ⟩
  case round =>
    obtain ⟨k, hk, rfl, hI⟩ := hrel
    by_cases hlt : k < s.size
    · obtain ⟨b, hsf, hbv⟩ := sfx_cons hlt
      have HST := Lib.hid (show k + (if rowP name (bt s k) = true then runL (rowP name) (sfx s (k + 1)) + 1 else 0) = J by rw [← hI.out, hsf, runL, hbv])
      clear hsf hbv hI
      have hdv : ∀ v, digitB (bt s k) = v → Hid (∀ w : World, Calls Try.prog 45 #[.int .u8 (bt s k)] w fun e w' => e = .returned (.bool v) ∧ w = w') := fun v h => Lib.hid (fun w => by have := refDigit (bt s k) w; rw [h] at this; exact this)
      have hsv : ∀ v, smallB (bt s k) = v → Hid (∀ w : World, Calls Try.prog 48 #[.int .u8 (bt s k)] w fun e w' => e = .returned (.bool v) ∧ w = w') := fun v h => Lib.hid (fun w => by have := refSmall (bt s k) w; rw [h] at this; exact this)
      cases h1 : digitB (bt s k) <;> cases h2 : smallB (bt s k) <;> cases h3 : (bt s k == 95) <;> cases name
      all_goals
        have HD := hdv _ h1
        have HS := hsv _ h2
        have h3' : decide (bt s k = 95) = _ := h3
        have hp := HST.out
        simp [rowP, h1, h2, h3'] at hp
        have HP := Lib.hid hp
        clear hdv hsv HST h3' h1 h2 hp
        go_wp2_with (first | (go_at_call 45; refine (HD.out _).mono ?_; rintro e w' ⟨rfl, rfl⟩) | (go_at_call 48; refine (HS.out _).mono ?_; rintro e w' ⟨rfl, rfl⟩))
        first
          | (go_ret
             exact ⟨ret_i (by have := HP.out; omega), rfl⟩)
          | (go_round
             case rel => exact ⟨k + 1, hlt, by go_num, Lib.hid (by have := HP.out; omega)⟩
             case measure => simp [intOf]; omega)
    · have hkJ : (k : Int) = J := by
        have := hI.out
        rw [sfx_nil (by omega)] at this
        have h2 : runL (rowP name) [] = 0 := rfl
        omega
      have HK := Lib.hid hkJ
      clear hI hkJ
      go_wp2
      go_ret
      exact ⟨ret_i HK.out, rfl⟩
end Go.Proofs.Ytmelilppeikdiaa
