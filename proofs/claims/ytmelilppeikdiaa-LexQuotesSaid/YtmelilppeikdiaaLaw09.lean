/- The walks of LexKeys and LexAll. -/
import Derived.Test.YtmelilppeikdiaaAwake09
namespace Go.Proofs.Ytmelilppeikdiaa
open Go.RowKit Go.PlainAid
set_option linter.unusedVariables false
set_option linter.unusedSimpArgs false

theorem maxlen_some (w : World) (h : w.ShapedOpen Try.prog) : ∃ m, w.cell? ⟨0, 0, none⟩ = some (.int .i64 m) := Try.laysM144.s1_3 w h
theorem hm_below {w w' : World} {m : Int} (h : w.cell? ⟨0, 0, none⟩ = some (.int .i64 m)) (hb : Below w.heap.size w w') : w'.cell? ⟨0, 0, none⟩ = some (.int .i64 m) := by
  rw [hb.cell (p := ⟨_, 0, none⟩) (lt_cell h)]; exact h
theorem bl_then {w x y : World} (h : Below w.heap.size w x) (g : Below x.heap.size x y) : Below w.heap.size w y := h.trans (g.mono h.size)

set_option maxHeartbeats 4000000 in
theorem walkKeys (s : ByteArray) (m : Int) (w : World) (ws : s.size ≤ maxLen) (hm : w.cell? ⟨0, 0, none⟩ = some (.int .i64 m)) :
    Calls Try.prog 3 #[.string s] w fun e w' => e = .returned (.bool true) ∧ Below w.heap.size w w' := by
  unfold maxLen at ws
  have HM := Lib.hid hm
  clear hm
  by_cases hl : 100 < s.size
  · go_enter Try.func3, Try.ntmps3
    go_wp2_with (first | (go_at_call 8; refine (awake09 m _ HM.out).mono ?_; rintro e w1 ⟨rfl, hb1⟩; have HB1 := Lib.hid hb1; clear hb1))
    go_ret
    exact ⟨rfl, HB1.out⟩
  · have hK := Lib.hid (fun w h => lexKey s m w (by omega) h)
    have hRK := Lib.hid (fun w => refKey s w)
    have hD := Lib.hid (fun w => lexDir s w)
    have hRD := Lib.hid (fun w => refDir s w)
    generalize keyL s.data.toList = a at hK hRK
    generalize dirL s.data.toList = b at hD hRD
    go_enter Try.func3, Try.ntmps3
    go_wp2_with (first
      | (go_at_call 9; refine (hK.out _ HM.out).mono ?_; rintro e w1 ⟨rfl, rfl⟩)
      | (go_at_call 10; refine (hRK.out _).mono ?_; rintro e w1 ⟨rfl, rfl⟩)
      | (go_at_call 11; refine (hD.out _).mono ?_; rintro e w1 ⟨rfl, hb1⟩; have HB1 := Lib.hid hb1; clear hb1)
      | (go_at_call 12; refine (hRD.out _).mono ?_; rintro e w2 ⟨rfl, rfl⟩)
      | (go_at_call 8; refine (awake09 m _ (hm_below HM.out HB1.out)).mono ?_; rintro e w3 ⟨rfl, hb3⟩; have HB3 := Lib.hid hb3; clear hb3))
    go_ret
    exact ⟨rfl, bl_then HB1.out HB3.out⟩

set_option maxHeartbeats 4000000 in
theorem walkAll (s : ByteArray) (m : Int) (w : World) (ws : s.size ≤ maxLen) (hm : w.cell? ⟨0, 0, none⟩ = some (.int .i64 m)) :
    Calls Try.prog 4 #[.string s] w fun e w' => e = .returned (.bool true) ∧ Below w.heap.size w w' := by
  unfold maxLen at ws
  have HM := Lib.hid hm
  clear hm
  by_cases hl : 600 < s.size
  · go_enter Try.func4, Try.ntmps4
    go_wp2_with (first | (go_at_call 8; refine (awake09 m _ HM.out).mono ?_; rintro e w1 ⟨rfl, hb1⟩; have HB1 := Lib.hid hb1; clear hb1))
    go_ret
    exact ⟨rfl, HB1.out⟩
  · have hA := Lib.hid (fun w h => lexAll_fits s m w (by omega) h)
    have hR := Lib.hid (fun w => refAll_fits s w (by omega))
    generalize allR s = A at hA hR
    go_enter Try.func4, Try.ntmps4
    go_wp2_with fail
    refine (hA.out _ HM.out).mono ?_
    rintro e w1 ⟨v1, rfl, hv1, hb1⟩
    have HB1 := Lib.hid hb1
    have HV1 := Lib.hid (hv1.below (one_alloc w1 (.cells #[.int .i64 A.err, .int .i64 A.fl, .int .i64 A.fc] 28)))
    have HF1 := Lib.hid (BK.new w1 [.int .i64 A.err, .int .i64 A.fl, .int .i64 A.fc] 28)
    clear hb1 hv1
    go_wp2_with fail
    refine (hR.out _).mono ?_
    rintro e w2 ⟨v2, rfl, hv2, hb2⟩
    have HB2 := Lib.hid (bl_then (bl_a HB1.out _) hb2)
    have HF2 := Lib.hid (HF1.out.below hb2)
    have HV2 := Lib.hid ((HV1.out.below hb2).below (one_alloc w2 (.cells #[.int .i64 A.err, .int .i64 A.fl, .int .i64 A.fc] 28)))
    have HW2 := Lib.hid (hv2.below (one_alloc w2 (.cells #[.int .i64 A.err, .int .i64 A.fl, .int .i64 A.fc] 28)))
    have f0 := HF2.out.cell 0
    have f1 := HF2.out.cell 1
    have f2 := HF2.out.cell 2
    have hlt := HF2.out.lt
    have hm2 := hm_below HM.out (bl_a HB2.out (.cells #[.int .i64 A.err, .int .i64 A.fl, .int .i64 A.fc] 28))
    have HM2 : Hid (∀ n, ((w2.alloc (.cells #[.int .i64 A.err, .int .i64 A.fl, .int .i64 A.fc] 28)).drewN n).cell? ⟨0, 0, none⟩ = some (.int .i64 m)) := Lib.hid (fun n => hm2)
    clear hb2 hv2 hm2
    go_wp2_with (first
      | (go_at_call 15; refine (sameToks_eq _ _ A.toks _ HV2.out HW2.out).mono ?_; rintro e w3 ⟨rfl, n, rfl⟩)
      | (go_at_call 8; refine (awake09 m _ (HM2.out _)).mono ?_; rintro e w4 ⟨rfl, hb4⟩; have HB4 := Lib.hid hb4; clear hb4))
    go_ret
    exact ⟨rfl, bl_then (bl_drewN (bl_a HB2.out _) _) HB4.out⟩
end Go.Proofs.Ytmelilppeikdiaa
