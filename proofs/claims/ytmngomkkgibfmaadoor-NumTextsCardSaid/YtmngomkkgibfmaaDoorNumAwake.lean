/- Contract of clewlaw01.awake: it answers true. -/
import Derived.Test.YtmngomkkgibfmaaDoorNumParse2
namespace Go.Proofs.YtmngomkkgibfmaaDoor
open Go.RowKit Go.PlainAid

theorem awake01 (w : World) : Calls Tryd.prog 10 #[] w fun e w' => e = .returned (.bool true) ∧ w.alloc (.cells #[.string ⟨#[48, 48, 55]⟩] 9) = w' := by
  have e1 : parE ⟨#[48, 48, 55]⟩ = 4 := by decide +kernel
  have e2 : wr (Int.tdiv (wr (-7)) (wr 2)) = -3 := by decide +kernel
  have e3 : wr 32768 = -32768 := by decide +kernel
  have e4 : wr (wr 300 * wr 300) = 24464 := by decide +kernel
  go_enter Tryd.func10, Tryd.ntmps10
  go_wp2_with (first
    | (go_at_call 16; refine (numWrap _ _).mono ?_; rintro e w' ⟨rfl, rfl⟩)
    | (go_at_call 17; refine (numMul _ _ _).mono ?_; rintro e w' ⟨rfl, rfl⟩)
    | (go_at_call 15; refine (numDiv _ _ _ (by decide +kernel)).mono ?_; rintro e w' ⟨rfl, rfl⟩)
    | (go_at_call 9; refine (numParse _ _ (by decide +kernel)).mono ?_; rintro e w' ⟨rfl, rfl⟩))
  go_ret
  exact ⟨rfl, rfl⟩
end Go.Proofs.YtmngomkkgibfmaaDoor
