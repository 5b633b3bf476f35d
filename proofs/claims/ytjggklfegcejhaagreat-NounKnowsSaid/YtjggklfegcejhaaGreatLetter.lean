/- Contracts of package letter and clewref04: the sorts of bytes, small letters. -/
import Derived.Test.YtjggklfegcejhaaGreatBase
namespace Go.Proofs.YtjggklfegcejhaaGreat
open Go.RowKit Go.PlainAid

theorem let_great (c : Int) (w : World) : Calls Tryz.prog 103 #[.int .u8 c] w fun e w' => e = .returned (.bool (greatB c)) ∧ w = w' := by
  go_enter Tryz.func103, Tryz.ntmps103
  go_wp2
  all_goals
    go_ret
    exact ⟨ret_b (by simp [greatB]; try omega), rfl⟩
theorem ref_small (c : Int) (w : World) : Calls Tryz.prog 135 #[.int .u8 c] w fun e w' => e = .returned (.bool (smallB c)) ∧ w = w' := by
  go_enter Tryz.func135, Tryz.ntmps135
  go_wp2
  all_goals
    go_ret
    exact ⟨ret_b (by simp [smallB]; try omega), rfl⟩
theorem ref_great (c : Int) (w : World) : Calls Tryz.prog 100 #[.int .u8 c] w fun e w' => e = .returned (.bool (greatB c)) ∧ w = w' := by
  go_enter Tryz.func100, Tryz.ntmps100
  go_wp2
  all_goals
    go_ret
    exact ⟨ret_b (by simp [greatB]; try omega), rfl⟩
theorem ref_digit (c : Int) (w : World) : Calls Tryz.prog 136 #[.int .u8 c] w fun e w' => e = .returned (.bool (digitB c)) ∧ w = w' := by
  go_enter Tryz.func136, Tryz.ntmps136
  go_wp2
  all_goals
    go_ret
    exact ⟨ret_b (by simp [digitB]; try omega), rfl⟩

end Go.Proofs.YtjggklfegcejhaaGreat
