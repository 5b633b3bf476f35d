/- Contracts of package letter and clewref04: the sorts of bytes, small letters. -/
import Derived.Test.YtjnpinfnpnohmaaDoorBase
namespace Go.Proofs.YtjnpinfnpnohmaaDoor
open Go.RowKit Go.PlainAid

theorem ref_small (c : Int) (w : World) : Calls Tryd.prog 101 #[.int .u8 c] w fun e w' => e = .returned (.bool (smallB c)) ∧ w = w' := by
  go_enter Tryd.func101, Tryd.ntmps101
  go_wp2
  all_goals
    go_ret
    exact ⟨ret_b (by simp [smallB]; try omega), rfl⟩
theorem ref_great (c : Int) (w : World) : Calls Tryd.prog 104 #[.int .u8 c] w fun e w' => e = .returned (.bool (greatB c)) ∧ w = w' := by
  go_enter Tryd.func104, Tryd.ntmps104
  go_wp2
  all_goals
    go_ret
    exact ⟨ret_b (by simp [greatB]; try omega), rfl⟩
theorem ref_digit (c : Int) (w : World) : Calls Tryd.prog 102 #[.int .u8 c] w fun e w' => e = .returned (.bool (digitB c)) ∧ w = w' := by
  go_enter Tryd.func102, Tryd.ntmps102
  go_wp2
  all_goals
    go_ret
    exact ⟨ret_b (by simp [digitB]; try omega), rfl⟩

end Go.Proofs.YtjnpinfnpnohmaaDoor
