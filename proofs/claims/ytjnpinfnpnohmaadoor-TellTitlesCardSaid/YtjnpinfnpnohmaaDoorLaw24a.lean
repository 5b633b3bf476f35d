/- The walk of TellTitles. -/
import Derived.Test.YtjnpinfnpnohmaaDoorHallAwake
namespace Go.Proofs.YtjnpinfnpnohmaaDoor
open Go.RowKit Go.PlainAid
set_option linter.unusedVariables false
set_option linter.unusedSimpArgs false

set_option maxRecDepth 100000 in
set_option maxHeartbeats 8000000 in
theorem walkTitles (x : TAd) (t : TbC) (i : Int) (w : World) (ht : TabIs w x t) (htab : Lib.TabIs Tryd.prog w "internal/strconv.uint64pow10" .u64 Lib.pow10Tab) :
    Calls Tryd.prog 3 #[tabV x t, .int .i64 i] w fun e w' => e = .returned (.bool true) ∧ Below w.heap.size w w' := by
  have HT := Lib.hid (fun w' (hb : Below w.heap.size w w') => tellTitle x t i w' (ht.below hb))
  have HR := Lib.hid (fun w' (hb : Below w.heap.size w w') => refTitleT x t i w' (ht.below hb))
  have HX := Lib.hid (fun w' (hb : Below w.heap.size w w') => tellText x t i w' (ht.below hb))
  have HY := Lib.hid (fun w' (hb : Below w.heap.size w w') => refTextT x t i w' (ht.below hb))
  have HA := Lib.hid (fun w' (hb : Below w.heap.size w w') => awake24 w' (tab_belowT htab hb))
  generalize titleT t i = ti at *
  generalize textT t i = tx at *
  have hbk := BK.new w (tabC x t) 28
  have hb0 := bl_a (Below.refl w.heap.size w) (.cells (tabC x t).toArray 28)
  obtain ⟨W0, hW0⟩ : ∃ W0, w.alloc (.cells (tabC x t).toArray 28) = W0 := ⟨_, rfl⟩
  rw [hW0] at hbk hb0
  have HB0 := Lib.hid hb0
  have HBK := Lib.hid hbk
  have hlt0 : w.heap.size < W0.heap.size := hbk.lt
  clear ht htab hb0 hbk
  unfold tabV mkS at *
  unfold tabC at HT HR HX HY hW0 ⊢
  go_enter Tryd.func3, Tryd.ntmps3
  go_wp2_with fail
  clear hW0
  have kt0 := HBK.out.cell 0
  have kt1 := HBK.out.cell 1
  have kt2 := HBK.out.cell 2
  have kt3 := HBK.out.cell 3
  have kt4 := HBK.out.cell 4
  have kt5 := HBK.out.cell 5
  have kt6 := HBK.out.cell 6
  have kt7 := HBK.out.cell 7
  have kt8 := HBK.out.cell 8
  have kt9 := HBK.out.cell 9
  have kt10 := HBK.out.cell 10
  have kt11 := HBK.out.cell 11
  have kt12 := HBK.out.cell 12
  have kt13 := HBK.out.cell 13
  have kt14 := HBK.out.cell 14
  simp only [tabC, List.getElem?_cons_zero, List.getElem?_cons_succ] at kt0 kt1 kt2 kt3 kt4 kt5 kt6 kt7 kt8 kt9 kt10 kt11 kt12 kt13 kt14
  refine region_text (fun w' => Below W0.heap.size W0 w') (by kernel_rfl) (by kernel_rfl) ((Below.refl _ _).drew) (fun KK hKK => ?_)
  intro OPS
  try simp only [List.append]
  repeat (first
    | (refine' inText_val ?_ ?_ ?_ ?_
       rotate_left 2
       · rfl
       · (intro w' hS; obtain ⟨hcc, hff⟩ := bcell hS; go_simp; first | with_reducible rfl | (rw [if_neg (by omega)]; done) | (rw [if_neg (by omega)]; with_reducible rfl) | skip)
       · (simp only [Act.put, List.setIfInBounds_toArray, List.set_cons_zero, List.set_cons_succ]; with_reducible rfl))
    | (refine' inText_call ?_ ?_ ?_ ?_ ?_
       rotate_left 4
       · rfl
       · (intro w' hS; obtain ⟨hcc, hff⟩ := bcell hS; go_simp; exact ⟨rfl, rfl⟩)
       · (intro w' hS
          first
            | ((with_reducible refine (HT.out w' (bl_then HB0.out hS)).mono ?_); exact fun e w'' h => ⟨h.1, bl_then hS h.2⟩)
            | ((with_reducible refine (HR.out w' (bl_then HB0.out hS)).mono ?_); exact fun e w'' h => ⟨h.1, bl_then hS h.2⟩)
            | ((with_reducible refine (HX.out w' (bl_then HB0.out hS)).mono ?_); exact fun e w'' h => ⟨h.1, bl_then hS h.2⟩)
            | ((with_reducible refine (HY.out w' (bl_then HB0.out hS)).mono ?_); exact fun e w'' h => ⟨h.1, bl_then hS h.2⟩)
            | ((with_reducible refine (HA.out w' (bl_then HB0.out hS)).mono ?_); exact fun e w'' h => ⟨h.1, bl_then hS h.2⟩))
       · (simp only [Act.put, List.setIfInBounds_toArray, List.set_cons_zero, List.set_cons_succ]; with_reducible rfl)))
  refine inText_nil (hKK.out _ (fun w5 hS => ?_))
  have HB9 := Lib.hid (bl_then HB0.out hS)
  clear hS hKK
  clear kt0 kt1 kt2 kt3 kt4 kt5 kt6 kt7 kt8 kt9 kt10 kt11 kt12 kt13 kt14
  go_wp2
  go_ret
  exact ⟨rfl, HB9.out⟩
end Go.Proofs.YtjnpinfnpnohmaaDoor
