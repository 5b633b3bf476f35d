/- Contracts of package letter and clewref04: the sorts of bytes, small letters. -/
import Derived.Test.YtjggklfegcejhaaBase
namespace Go.Proofs.Ytjggklfegcejhaa
open Go.RowKit Go.PlainAid

theorem let_great (c : Int) (w : World) : Calls Try.prog 64 #[.int .u8 c] w fun e w' => e = .returned (.bool (greatB c)) ∧ w = w' := by
  go_enter Try.func64, Try.ntmps64
  go_wp2
  all_goals
    go_ret
    exact ⟨ret_b (by simp [greatB]; try omega), rfl⟩
theorem ref_small (c : Int) (w : World) : Calls Try.prog 73 #[.int .u8 c] w fun e w' => e = .returned (.bool (smallB c)) ∧ w = w' := by
  go_enter Try.func73, Try.ntmps73
  go_wp2
  all_goals
    go_ret
    exact ⟨ret_b (by simp [smallB]; try omega), rfl⟩
theorem ref_great (c : Int) (w : World) : Calls Try.prog 76 #[.int .u8 c] w fun e w' => e = .returned (.bool (greatB c)) ∧ w = w' := by
  go_enter Try.func76, Try.ntmps76
  go_wp2
  all_goals
    go_ret
    exact ⟨ret_b (by simp [greatB]; try omega), rfl⟩
theorem ref_digit (c : Int) (w : World) : Calls Try.prog 74 #[.int .u8 c] w fun e w' => e = .returned (.bool (digitB c)) ∧ w = w' := by
  go_enter Try.func74, Try.ntmps74
  go_wp2
  all_goals
    go_ret
    exact ⟨ret_b (by simp [digitB]; try omega), rfl⟩

end Go.Proofs.Ytjggklfegcejhaa
