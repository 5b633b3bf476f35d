/- Contracts of package letter and clewref04: the sorts of bytes, small letters. -/
import Derived.Test.YtgheiadnjnnjfaaBase
namespace Go.Proofs.Ytgheiadnjnnjfaa
open Go.RowKit Go.PlainAid

theorem let_small (c : Int) (w : World) : Calls Try.prog 20 #[.int .u8 c] w fun e w' => e = .returned (.bool (smallB c)) ∧ w = w' := by
  go_enter Try.func20, Try.ntmps20
  go_wp2
  all_goals
    go_ret
    exact ⟨ret_b (by simp [smallB]; try omega), rfl⟩
theorem let_great (c : Int) (w : World) : Calls Try.prog 21 #[.int .u8 c] w fun e w' => e = .returned (.bool (greatB c)) ∧ w = w' := by
  go_enter Try.func21, Try.ntmps21
  go_wp2
  all_goals
    go_ret
    exact ⟨ret_b (by simp [greatB]; try omega), rfl⟩
theorem let_digit (c : Int) (w : World) : Calls Try.prog 22 #[.int .u8 c] w fun e w' => e = .returned (.bool (digitB c)) ∧ w = w' := by
  go_enter Try.func22, Try.ntmps22
  go_wp2
  all_goals
    go_ret
    exact ⟨ret_b (by simp [digitB]; try omega), rfl⟩
theorem ref_small (c : Int) (w : World) : Calls Try.prog 27 #[.int .u8 c] w fun e w' => e = .returned (.bool (smallB c)) ∧ w = w' := by
  go_enter Try.func27, Try.ntmps27
  go_wp2
  all_goals
    go_ret
    exact ⟨ret_b (by simp [smallB]; try omega), rfl⟩
theorem ref_great (c : Int) (w : World) : Calls Try.prog 18 #[.int .u8 c] w fun e w' => e = .returned (.bool (greatB c)) ∧ w = w' := by
  go_enter Try.func18, Try.ntmps18
  go_wp2
  all_goals
    go_ret
    exact ⟨ret_b (by simp [greatB]; try omega), rfl⟩
theorem ref_digit (c : Int) (w : World) : Calls Try.prog 28 #[.int .u8 c] w fun e w' => e = .returned (.bool (digitB c)) ∧ w = w' := by
  go_enter Try.func28, Try.ntmps28
  go_wp2
  all_goals
    go_ret
    exact ⟨ret_b (by simp [digitB]; try omega), rfl⟩

end Go.Proofs.Ytgheiadnjnnjfaa
