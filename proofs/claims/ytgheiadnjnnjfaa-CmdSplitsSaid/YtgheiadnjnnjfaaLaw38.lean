/- The walk of the law CmdSplits: it answers true. -/
import Derived.Test.YtgheiadnjnnjfaaAwake38
namespace Go.Proofs.Ytgheiadnjnnjfaa
open Go.RowKit Go.PlainAid

theorem walkSplits (s : ByteArray) (w : World) (hs : s.size ≤ maxLen) :
    Calls Try.prog 3 #[.string s] w fun e w' => e = .returned (.bool true) ∧ Below w.heap.size w w' := by
  unfold maxLen at hs
  by_cases hl : 2000 < s.size
  · go_enter Try.func3, Try.ntmps3
    go_wp2_with (go_at_call 6; refine (awake38 _).mono ?_; rintro e w1 ⟨rfl, hb1⟩)
    go_ret
    exact ⟨rfl, hb1⟩
  · go_enter Try.func3, Try.ntmps3
    go_wp2_with (first
      | (go_at_call 7; refine (cmdSplit s _ (by omega)).mono ?_; rintro e w1 ⟨v1, rfl, h1, hb1⟩; have H1 := Lib.hid h1; clear h1)
      | (go_at_call 8; refine (refSplit s _ (by omega)).mono ?_; rintro e w2 ⟨v2, rfl, h2, hb2⟩; have H2 := Lib.hid h2; clear h2)
      | (go_at_call 9; refine (lists_true _ _ _ _ (H1.out.below hb2) H2.out).mono ?_; rintro e w3 ⟨rfl, n, rfl⟩)
      | (go_at_call 6; refine (awake38 _).mono ?_; rintro e w4 ⟨rfl, hb4⟩))
    go_ret
    exact ⟨rfl, (below_drewN (hb1.trans (hb2.mono hb1.size)) n).trans (hb4.mono (Nat.le_trans hb1.size hb2.size))⟩
end Go.Proofs.Ytgheiadnjnnjfaa
