/- Contracts of package letter and clewref04: the sorts of bytes, small letters. -/
import Derived.Test.YtlkdphbgephfiaaBase
namespace Go.Proofs.Ytlkdphbgephfiaa
open Go.RowKit Go.PlainAid

theorem let_great (c : Int) (w : World) : Calls Try.prog 77 #[.int .u8 c] w fun e w' => e = .returned (.bool (greatB c)) ∧ w = w' := by
  go_enter Try.func77, Try.ntmps77
  go_wp2
  all_goals
    go_ret
    exact ⟨ret_b (by simp [greatB]; try omega), rfl⟩
theorem ref_small (c : Int) (w : World) : Calls Try.prog 41 #[.int .u8 c] w fun e w' => e = .returned (.bool (smallB c)) ∧ w = w' := by
  go_enter Try.func41, Try.ntmps41
  go_wp2
  all_goals
    go_ret
    exact ⟨ret_b (by simp [smallB]; try omega), rfl⟩
theorem ref_great (c : Int) (w : World) : Calls Try.prog 40 #[.int .u8 c] w fun e w' => e = .returned (.bool (greatB c)) ∧ w = w' := by
  go_enter Try.func40, Try.ntmps40
  go_wp2
  all_goals
    go_ret
    exact ⟨ret_b (by simp [greatB]; try omega), rfl⟩
theorem ref_digit (c : Int) (w : World) : Calls Try.prog 78 #[.int .u8 c] w fun e w' => e = .returned (.bool (digitB c)) ∧ w = w' := by
  go_enter Try.func78, Try.ntmps78
  go_wp2
  all_goals
    go_ret
    exact ⟨ret_b (by simp [digitB]; try omega), rfl⟩

end Go.Proofs.Ytlkdphbgephfiaa
