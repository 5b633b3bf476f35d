/- clewlaw24's awake: it answers true. -/
import Derived.Test.YtjnpinfnpnohmaaDoorHall
namespace Go.Proofs.YtjnpinfnpnohmaaDoor
open Go.RowKit Go.PlainAid
set_option linter.unusedVariables false
set_option linter.unusedSimpArgs false

set_option maxRecDepth 100000 in
set_option maxHeartbeats 8000000 in
theorem awake24 (w : World) (htab : Lib.TabIs Tryd.prog w "internal/strconv.uint64pow10" .u64 Lib.pow10Tab) : Calls Tryd.prog 12 #[] w fun e w' => e = .returned (.bool true) ∧ Below w.heap.size w w' := by
  have HTAB := Lib.hid (fun w' hb => tab_belowT htab (w' := w') hb)
  clear htab
  go_enter Tryd.func12, Tryd.ntmps12
  go_wp2_with fail
  refine (hallC _).mono ?_
  rintro e w1 ⟨a, b, rfl, ht, hw, hb1⟩
  have hnew := Two.new (hallX a) hallT (hallQ b) w1
  have HL := Lib.hid (fun w' (hb : Below w1.heap.size w1 w') => lookC (hallX a) hallT (hallQ b) hallD 5 w' (ht.below hb) (hw.below hb) hall_tw)
  have HT := Lib.hid (fun w' (hb : Below w1.heap.size w1 w') => tellTitle (hallX a) hallT 0 w' (ht.below hb))
  have HS := Lib.hid (fun w' (hb : Below w1.heap.size w1 w') => statusC (hallX a) hallT (hallQ b) hallD 5 w' (ht.below hb) (hw.below hb) hall_tw (HTAB.out _ (bl_then hb1 hb)))
  have HLi := Lib.hid (fun w' (hb : Below w1.heap.size w1 w') => listC (hallX a) hallT (hallQ b) hallD 5 3 w' (ht.below hb) (hw.below hb) hall_tw.tx)
  rw [hall_look] at HL
  rw [hall_title] at HT
  rw [hall_status] at HS
  rw [hall_list] at HLi
  clear ht hw
  generalize hallX a = x at *
  generalize hallT = t at *
  generalize hallQ b = q at *
  obtain ⟨W0, hW0⟩ : ∃ W0, (w1.alloc (.cells (tabC x t).toArray 28)).alloc (.cells (worldC q).toArray 34) = W0 := ⟨_, rfl⟩
  rw [hW0] at hnew
  have HB1 := Lib.hid hb1
  clear hb1
  unfold tabV worldV mkS at *
  unfold worldC at HL HS HLi hW0 ⊢
  unfold tabC at HL HT HS HLi hW0 ⊢
  have HTW := Lib.hid (hnew)
  have HTWt := Lib.hid HTW.out.bt
  have HTWw := Lib.hid HTW.out.bw
  have kt0 := HTWt.out.cell 0
  have kt1 := HTWt.out.cell 1
  have kt2 := HTWt.out.cell 2
  have kt3 := HTWt.out.cell 3
  have kt4 := HTWt.out.cell 4
  have kt5 := HTWt.out.cell 5
  have kt6 := HTWt.out.cell 6
  have kt7 := HTWt.out.cell 7
  have kt8 := HTWt.out.cell 8
  have kt9 := HTWt.out.cell 9
  have kt10 := HTWt.out.cell 10
  have kt11 := HTWt.out.cell 11
  have kt12 := HTWt.out.cell 12
  have kt13 := HTWt.out.cell 13
  have kt14 := HTWt.out.cell 14
  simp only [tabC, List.getElem?_cons_zero, List.getElem?_cons_succ] at kt0 kt1 kt2 kt3 kt4 kt5 kt6 kt7 kt8 kt9 kt10 kt11 kt12 kt13 kt14
  have b0 := HTWw.out.cell 0
  have b1 := HTWw.out.cell 1
  have b2 := HTWw.out.cell 2
  have b3 := HTWw.out.cell 3
  have b4 := HTWw.out.cell 4
  have b5 := HTWw.out.cell 5
  have b6 := HTWw.out.cell 6
  have b7 := HTWw.out.cell 7
  have b8 := HTWw.out.cell 8
  have b9 := HTWw.out.cell 9
  have bA := HTWw.out.cell 10
  have bB := HTWw.out.cell 11
  have bC := HTWw.out.cell 12
  simp only [worldC, List.getElem?_cons_zero, List.getElem?_cons_succ] at b0 b1 b2 b3 b4 b5 b6 b7 b8 b9 bA bB bC
  clear hnew
  go_wp2_with fail
  clear hW0
  go_wp2_with (first
    | (go_at_call 17
       with_reducible refine (HL.out _ HTW.out.bl).mono ?_
       rintro e w' ⟨rfl, hb'⟩
       have hnew := HTW.out.below hb'
       clear hb'
       clear kt0 kt1 kt2 kt3 kt4 kt5 kt6 kt7 kt8 kt9 kt10 kt11 kt12 kt13 kt14
       clear b0 b1 b2 b3 b4 b5 b6 b7 b8 b9 bA bB bC
       clear HTWt HTWw
       clear HTW
       have HTW := Lib.hid (hnew)
       have HTWt := Lib.hid HTW.out.bt
       have HTWw := Lib.hid HTW.out.bw
       have kt0 := HTWt.out.cell 0
       have kt1 := HTWt.out.cell 1
       have kt2 := HTWt.out.cell 2
       have kt3 := HTWt.out.cell 3
       have kt4 := HTWt.out.cell 4
       have kt5 := HTWt.out.cell 5
       have kt6 := HTWt.out.cell 6
       have kt7 := HTWt.out.cell 7
       have kt8 := HTWt.out.cell 8
       have kt9 := HTWt.out.cell 9
       have kt10 := HTWt.out.cell 10
       have kt11 := HTWt.out.cell 11
       have kt12 := HTWt.out.cell 12
       have kt13 := HTWt.out.cell 13
       have kt14 := HTWt.out.cell 14
       simp only [tabC, List.getElem?_cons_zero, List.getElem?_cons_succ] at kt0 kt1 kt2 kt3 kt4 kt5 kt6 kt7 kt8 kt9 kt10 kt11 kt12 kt13 kt14
       have b0 := HTWw.out.cell 0
       have b1 := HTWw.out.cell 1
       have b2 := HTWw.out.cell 2
       have b3 := HTWw.out.cell 3
       have b4 := HTWw.out.cell 4
       have b5 := HTWw.out.cell 5
       have b6 := HTWw.out.cell 6
       have b7 := HTWw.out.cell 7
       have b8 := HTWw.out.cell 8
       have b9 := HTWw.out.cell 9
       have bA := HTWw.out.cell 10
       have bB := HTWw.out.cell 11
       have bC := HTWw.out.cell 12
       simp only [worldC, List.getElem?_cons_zero, List.getElem?_cons_succ] at b0 b1 b2 b3 b4 b5 b6 b7 b8 b9 bA bB bC
       clear hnew)
    | (go_at_call 8
       with_reducible refine (HT.out _ HTW.out.bl).mono ?_
       rintro e w' ⟨rfl, hb'⟩
       have hnew := HTW.out.below hb'
       clear hb'
       clear kt0 kt1 kt2 kt3 kt4 kt5 kt6 kt7 kt8 kt9 kt10 kt11 kt12 kt13 kt14
       clear b0 b1 b2 b3 b4 b5 b6 b7 b8 b9 bA bB bC
       clear HTWt HTWw
       clear HTW
       have HTW := Lib.hid (hnew)
       have HTWt := Lib.hid HTW.out.bt
       have HTWw := Lib.hid HTW.out.bw
       have kt0 := HTWt.out.cell 0
       have kt1 := HTWt.out.cell 1
       have kt2 := HTWt.out.cell 2
       have kt3 := HTWt.out.cell 3
       have kt4 := HTWt.out.cell 4
       have kt5 := HTWt.out.cell 5
       have kt6 := HTWt.out.cell 6
       have kt7 := HTWt.out.cell 7
       have kt8 := HTWt.out.cell 8
       have kt9 := HTWt.out.cell 9
       have kt10 := HTWt.out.cell 10
       have kt11 := HTWt.out.cell 11
       have kt12 := HTWt.out.cell 12
       have kt13 := HTWt.out.cell 13
       have kt14 := HTWt.out.cell 14
       simp only [tabC, List.getElem?_cons_zero, List.getElem?_cons_succ] at kt0 kt1 kt2 kt3 kt4 kt5 kt6 kt7 kt8 kt9 kt10 kt11 kt12 kt13 kt14
       have b0 := HTWw.out.cell 0
       have b1 := HTWw.out.cell 1
       have b2 := HTWw.out.cell 2
       have b3 := HTWw.out.cell 3
       have b4 := HTWw.out.cell 4
       have b5 := HTWw.out.cell 5
       have b6 := HTWw.out.cell 6
       have b7 := HTWw.out.cell 7
       have b8 := HTWw.out.cell 8
       have b9 := HTWw.out.cell 9
       have bA := HTWw.out.cell 10
       have bB := HTWw.out.cell 11
       have bC := HTWw.out.cell 12
       simp only [worldC, List.getElem?_cons_zero, List.getElem?_cons_succ] at b0 b1 b2 b3 b4 b5 b6 b7 b8 b9 bA bB bC
       clear hnew)
    | (go_at_call 19
       with_reducible refine (HS.out _ HTW.out.bl).mono ?_
       rintro e w' ⟨rfl, hb'⟩
       have hnew := HTW.out.below hb'
       clear hb'
       clear kt0 kt1 kt2 kt3 kt4 kt5 kt6 kt7 kt8 kt9 kt10 kt11 kt12 kt13 kt14
       clear b0 b1 b2 b3 b4 b5 b6 b7 b8 b9 bA bB bC
       clear HTWt HTWw
       clear HTW
       have HTW := Lib.hid (hnew)
       have HTWt := Lib.hid HTW.out.bt
       have HTWw := Lib.hid HTW.out.bw
       have kt0 := HTWt.out.cell 0
       have kt1 := HTWt.out.cell 1
       have kt2 := HTWt.out.cell 2
       have kt3 := HTWt.out.cell 3
       have kt4 := HTWt.out.cell 4
       have kt5 := HTWt.out.cell 5
       have kt6 := HTWt.out.cell 6
       have kt7 := HTWt.out.cell 7
       have kt8 := HTWt.out.cell 8
       have kt9 := HTWt.out.cell 9
       have kt10 := HTWt.out.cell 10
       have kt11 := HTWt.out.cell 11
       have kt12 := HTWt.out.cell 12
       have kt13 := HTWt.out.cell 13
       have kt14 := HTWt.out.cell 14
       simp only [tabC, List.getElem?_cons_zero, List.getElem?_cons_succ] at kt0 kt1 kt2 kt3 kt4 kt5 kt6 kt7 kt8 kt9 kt10 kt11 kt12 kt13 kt14
       have b0 := HTWw.out.cell 0
       have b1 := HTWw.out.cell 1
       have b2 := HTWw.out.cell 2
       have b3 := HTWw.out.cell 3
       have b4 := HTWw.out.cell 4
       have b5 := HTWw.out.cell 5
       have b6 := HTWw.out.cell 6
       have b7 := HTWw.out.cell 7
       have b8 := HTWw.out.cell 8
       have b9 := HTWw.out.cell 9
       have bA := HTWw.out.cell 10
       have bB := HTWw.out.cell 11
       have bC := HTWw.out.cell 12
       simp only [worldC, List.getElem?_cons_zero, List.getElem?_cons_succ] at b0 b1 b2 b3 b4 b5 b6 b7 b8 b9 bA bB bC
       clear hnew)
    | (go_at_call 15
       with_reducible refine (HLi.out _ HTW.out.bl).mono ?_
       rintro e w' ⟨rfl, hb'⟩
       have hnew := HTW.out.below hb'
       clear hb'
       clear kt0 kt1 kt2 kt3 kt4 kt5 kt6 kt7 kt8 kt9 kt10 kt11 kt12 kt13 kt14
       clear b0 b1 b2 b3 b4 b5 b6 b7 b8 b9 bA bB bC
       clear HTWt HTWw
       clear HTW
       have HTW := Lib.hid (hnew)
       have HTWt := Lib.hid HTW.out.bt
       have HTWw := Lib.hid HTW.out.bw
       have kt0 := HTWt.out.cell 0
       have kt1 := HTWt.out.cell 1
       have kt2 := HTWt.out.cell 2
       have kt3 := HTWt.out.cell 3
       have kt4 := HTWt.out.cell 4
       have kt5 := HTWt.out.cell 5
       have kt6 := HTWt.out.cell 6
       have kt7 := HTWt.out.cell 7
       have kt8 := HTWt.out.cell 8
       have kt9 := HTWt.out.cell 9
       have kt10 := HTWt.out.cell 10
       have kt11 := HTWt.out.cell 11
       have kt12 := HTWt.out.cell 12
       have kt13 := HTWt.out.cell 13
       have kt14 := HTWt.out.cell 14
       simp only [tabC, List.getElem?_cons_zero, List.getElem?_cons_succ] at kt0 kt1 kt2 kt3 kt4 kt5 kt6 kt7 kt8 kt9 kt10 kt11 kt12 kt13 kt14
       have b0 := HTWw.out.cell 0
       have b1 := HTWw.out.cell 1
       have b2 := HTWw.out.cell 2
       have b3 := HTWw.out.cell 3
       have b4 := HTWw.out.cell 4
       have b5 := HTWw.out.cell 5
       have b6 := HTWw.out.cell 6
       have b7 := HTWw.out.cell 7
       have b8 := HTWw.out.cell 8
       have b9 := HTWw.out.cell 9
       have bA := HTWw.out.cell 10
       have bB := HTWw.out.cell 11
       have bC := HTWw.out.cell 12
       simp only [worldC, List.getElem?_cons_zero, List.getElem?_cons_succ] at b0 b1 b2 b3 b4 b5 b6 b7 b8 b9 bA bB bC
       clear hnew))
  go_ret
  exact ⟨rfl, bl_then HB1.out HTW.out.bl⟩
end Go.Proofs.YtjnpinfnpnohmaaDoor
