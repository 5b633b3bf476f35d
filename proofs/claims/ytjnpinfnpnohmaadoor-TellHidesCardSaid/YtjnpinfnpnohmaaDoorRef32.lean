/- Contract of clewref23.Lit. -/
import Derived.Test.YtjnpinfnpnohmaaDoorRef31
import Derived.Test.YtjnpinfnpnohmaaDoorTell4
namespace Go.Proofs.YtjnpinfnpnohmaaDoor
open Go.RowKit Go.PlainAid
set_option linter.unusedVariables false
set_option linter.unusedSimpArgs false

theorem any_take {p : Int → Bool} {L : List Int} {i : Nat} (h : i < L.length) : (L.take (i + 1)).any p = ((L.take i).any p || p L[i]) := by
  rw [List.take_succ_eq_append_getElem h, List.any_append]; simp
set_option maxRecDepth 100000 in
set_option maxHeartbeats 8000000 in
theorem refLit (x : TAd) (t : TbC) (q : Wv) (d : WdC) (n : Nat) (w : World) (hW : WOk w q d n) (hd : ∀ x, (kidsW d.ch d.nx n x).Nodup) :
    Calls Tryd.prog 24 #[tabV x t, worldV q] w fun e w' => e = .returned (.bool (litB d n)) ∧ Below w.heap.size w w' := by
  have hnew := Two.new x t q w
  obtain ⟨W0, hW0⟩ : ∃ W0, (w.alloc (.cells (tabC x t).toArray 28)).alloc (.cells (worldC q).toArray 34) = W0 := ⟨_, rfl⟩
  rw [hW0] at hnew
  have HERE := Lib.hid (fun w' (hb : Below w.heap.size w w') => ref23Here q d n w' (hW.below hb))
  have HHA := Lib.hid (fun c w' (hb : Below w.heap.size w w') => ref23has q d c 0 n w' (hW.below hb) (by decide) (by decide))
  have HRE := Lib.hid (fun w' (hb : Below w.heap.size w w') => ref23reached q d n hd q.l1 (topOf d.pa n 1) w' (hW.below hb) (by rw [hW.len.h1]; exact hW.few))
  have HRL : (reachW (kidsW d.ch d.nx n) (fun c => hasB d.fl n c 3) (showB d.fl n) q.l1 (topOf d.pa n 1)).length ≤ n := reach_len hW.nest hW.pos hd (fun c => hasB d.fl n c 3) (showB d.fl n) q.l1 (topOf d.pa n 1)
  have HLB : Hid (litB d n = (hasB d.fl n (topOf d.pa n 1) 0 || (reachW (kidsW d.ch d.nx n) (fun c => hasB d.fl n c 3) (showB d.fl n) q.l1 (topOf d.pa n 1)).any (fun x => hasB d.fl n x 0))) := Lib.hid (by rw [hW.len.h1]; rfl)
  have hfew := hW.few
  generalize litB d n = lb at *
  generalize reachW (kidsW d.ch d.nx n) (fun c => hasB d.fl n c 3) (showB d.fl n) q.l1 (topOf d.pa n 1) = R at *
  generalize topOf d.pa n 1 = room at *
  have HH0 := Lib.hid (fun w' hb => HHA.out room w' hb)
  have HPP : Hid (∀ c, (fun x => hasB d.fl n x 0) c = hasB d.fl n c 0) := Lib.hid (fun c => rfl)
  generalize hasB d.fl n room 0 = h0 at *
  generalize (fun x => hasB d.fl n x 0) = pp at *
  have hm1 : q.l1 ≤ 1000 := by rw [hW.len.h1]; exact hfew
  clear hW
  have HTW := Lib.hid (hnew)
  have HTWt := Lib.hid HTW.out.bt
  have HTWw := Lib.hid HTW.out.bw
  have kt0 := HTWt.out.cell 0
  have kt1 := HTWt.out.cell 1
  have kt2 := HTWt.out.cell 2
  have kt3 := HTWt.out.cell 3
  have kt4 := HTWt.out.cell 4
  have kt5 := HTWt.out.cell 5
  have kt6 := HTWt.out.cell 6
  have kt7 := HTWt.out.cell 7
  have kt8 := HTWt.out.cell 8
  have kt9 := HTWt.out.cell 9
  have kt10 := HTWt.out.cell 10
  have kt11 := HTWt.out.cell 11
  have kt12 := HTWt.out.cell 12
  have kt13 := HTWt.out.cell 13
  have kt14 := HTWt.out.cell 14
  simp only [tabC, List.getElem?_cons_zero, List.getElem?_cons_succ] at kt0 kt1 kt2 kt3 kt4 kt5 kt6 kt7 kt8 kt9 kt10 kt11 kt12 kt13 kt14
  have b0 := HTWw.out.cell 0
  have b1 := HTWw.out.cell 1
  have b2 := HTWw.out.cell 2
  have b3 := HTWw.out.cell 3
  have b4 := HTWw.out.cell 4
  have b5 := HTWw.out.cell 5
  have b6 := HTWw.out.cell 6
  have b7 := HTWw.out.cell 7
  have b8 := HTWw.out.cell 8
  have b9 := HTWw.out.cell 9
  have bA := HTWw.out.cell 10
  have bB := HTWw.out.cell 11
  have bC := HTWw.out.cell 12
  simp only [worldC, List.getElem?_cons_zero, List.getElem?_cons_succ] at b0 b1 b2 b3 b4 b5 b6 b7 b8 b9 bA bB bC
  clear hnew
  unfold tabV worldV at *
  go_enter Tryd.func24, Tryd.ntmps24
  unfold worldC at HERE HHA HH0 HRE hW0 ⊢
  unfold tabC at hW0 ⊢
  go_wp2_with fail
  clear hW0
  refine (HERE.out _ HTW.out.bl).mono ?_
  rintro e w1 ⟨rfl, hb1⟩
  have hnew := HTW.out.below hb1
  clear hb1
  clear kt0 kt1 kt2 kt3 kt4 kt5 kt6 kt7 kt8 kt9 kt10 kt11 kt12 kt13 kt14
  clear b0 b1 b2 b3 b4 b5 b6 b7 b8 b9 bA bB bC
  clear HTWt HTWw
  clear HTW
  have HTW := Lib.hid (hnew)
  have HTWt := Lib.hid HTW.out.bt
  have HTWw := Lib.hid HTW.out.bw
  have kt0 := HTWt.out.cell 0
  have kt1 := HTWt.out.cell 1
  have kt2 := HTWt.out.cell 2
  have kt3 := HTWt.out.cell 3
  have kt4 := HTWt.out.cell 4
  have kt5 := HTWt.out.cell 5
  have kt6 := HTWt.out.cell 6
  have kt7 := HTWt.out.cell 7
  have kt8 := HTWt.out.cell 8
  have kt9 := HTWt.out.cell 9
  have kt10 := HTWt.out.cell 10
  have kt11 := HTWt.out.cell 11
  have kt12 := HTWt.out.cell 12
  have kt13 := HTWt.out.cell 13
  have kt14 := HTWt.out.cell 14
  simp only [tabC, List.getElem?_cons_zero, List.getElem?_cons_succ] at kt0 kt1 kt2 kt3 kt4 kt5 kt6 kt7 kt8 kt9 kt10 kt11 kt12 kt13 kt14
  have b0 := HTWw.out.cell 0
  have b1 := HTWw.out.cell 1
  have b2 := HTWw.out.cell 2
  have b3 := HTWw.out.cell 3
  have b4 := HTWw.out.cell 4
  have b5 := HTWw.out.cell 5
  have b6 := HTWw.out.cell 6
  have b7 := HTWw.out.cell 7
  have b8 := HTWw.out.cell 8
  have b9 := HTWw.out.cell 9
  have bA := HTWw.out.cell 10
  have bB := HTWw.out.cell 11
  have bC := HTWw.out.cell 12
  simp only [worldC, List.getElem?_cons_zero, List.getElem?_cons_succ] at b0 b1 b2 b3 b4 b5 b6 b7 b8 b9 bA bB bC
  clear hnew
  go_wp2_with fail
  refine (HH0.out _ HTW.out.bl).mono ?_
  rintro e w2 ⟨rfl, hb2⟩
  have hnew := HTW.out.below hb2
  clear hb2
  clear kt0 kt1 kt2 kt3 kt4 kt5 kt6 kt7 kt8 kt9 kt10 kt11 kt12 kt13 kt14
  clear b0 b1 b2 b3 b4 b5 b6 b7 b8 b9 bA bB bC
  clear HTWt HTWw
  clear HTW
  have HTW := Lib.hid (hnew)
  have HTWt := Lib.hid HTW.out.bt
  have HTWw := Lib.hid HTW.out.bw
  have kt0 := HTWt.out.cell 0
  have kt1 := HTWt.out.cell 1
  have kt2 := HTWt.out.cell 2
  have kt3 := HTWt.out.cell 3
  have kt4 := HTWt.out.cell 4
  have kt5 := HTWt.out.cell 5
  have kt6 := HTWt.out.cell 6
  have kt7 := HTWt.out.cell 7
  have kt8 := HTWt.out.cell 8
  have kt9 := HTWt.out.cell 9
  have kt10 := HTWt.out.cell 10
  have kt11 := HTWt.out.cell 11
  have kt12 := HTWt.out.cell 12
  have kt13 := HTWt.out.cell 13
  have kt14 := HTWt.out.cell 14
  simp only [tabC, List.getElem?_cons_zero, List.getElem?_cons_succ] at kt0 kt1 kt2 kt3 kt4 kt5 kt6 kt7 kt8 kt9 kt10 kt11 kt12 kt13 kt14
  have b0 := HTWw.out.cell 0
  have b1 := HTWw.out.cell 1
  have b2 := HTWw.out.cell 2
  have b3 := HTWw.out.cell 3
  have b4 := HTWw.out.cell 4
  have b5 := HTWw.out.cell 5
  have b6 := HTWw.out.cell 6
  have b7 := HTWw.out.cell 7
  have b8 := HTWw.out.cell 8
  have b9 := HTWw.out.cell 9
  have bA := HTWw.out.cell 10
  have bB := HTWw.out.cell 11
  have bC := HTWw.out.cell 12
  simp only [worldC, List.getElem?_cons_zero, List.getElem?_cons_succ] at b0 b1 b2 b3 b4 b5 b6 b7 b8 b9 bA bB bC
  clear hnew
  go_wp2_with fail
  refine (HRE.out _ HTW.out.bl).mono ?_
  rintro e w3 ⟨v, rfl, g1, g2⟩
  obtain ⟨a, cc, rfl⟩ := g1.shape
  have HIN1 := Lib.hid (g1.ints (by unfold maxLen; omega))
  clear g1
  have hnew := HTW.out.below g2
  clear g2
  clear kt0 kt1 kt2 kt3 kt4 kt5 kt6 kt7 kt8 kt9 kt10 kt11 kt12 kt13 kt14
  clear b0 b1 b2 b3 b4 b5 b6 b7 b8 b9 bA bB bC
  clear HTWt HTWw
  clear HTW
  have HTW := Lib.hid (hnew)
  have HTWt := Lib.hid HTW.out.bt
  have HTWw := Lib.hid HTW.out.bw
  have kt0 := HTWt.out.cell 0
  have kt1 := HTWt.out.cell 1
  have kt2 := HTWt.out.cell 2
  have kt3 := HTWt.out.cell 3
  have kt4 := HTWt.out.cell 4
  have kt5 := HTWt.out.cell 5
  have kt6 := HTWt.out.cell 6
  have kt7 := HTWt.out.cell 7
  have kt8 := HTWt.out.cell 8
  have kt9 := HTWt.out.cell 9
  have kt10 := HTWt.out.cell 10
  have kt11 := HTWt.out.cell 11
  have kt12 := HTWt.out.cell 12
  have kt13 := HTWt.out.cell 13
  have kt14 := HTWt.out.cell 14
  simp only [tabC, List.getElem?_cons_zero, List.getElem?_cons_succ] at kt0 kt1 kt2 kt3 kt4 kt5 kt6 kt7 kt8 kt9 kt10 kt11 kt12 kt13 kt14
  have b0 := HTWw.out.cell 0
  have b1 := HTWw.out.cell 1
  have b2 := HTWw.out.cell 2
  have b3 := HTWw.out.cell 3
  have b4 := HTWw.out.cell 4
  have b5 := HTWw.out.cell 5
  have b6 := HTWw.out.cell 6
  have b7 := HTWw.out.cell 7
  have b8 := HTWw.out.cell 8
  have b9 := HTWw.out.cell 9
  have bA := HTWw.out.cell 10
  have bB := HTWw.out.cell 11
  have bC := HTWw.out.cell 12
  simp only [worldC, List.getElem?_cons_zero, List.getElem?_cons_succ] at b0 b1 b2 b3 b4 b5 b6 b7 b8 b9 bA bB bC
  clear hnew
  clear kt0 kt1 kt2 kt3 kt4 kt5 kt6 kt7 kt8 kt9 kt10 kt11 kt12 kt13 kt14
  clear b0 b1 b2 b3 b4 b5 b6 b7 b8 b9 bA bB bC
  clear HTWt HTWw
  obtain ⟨m, hm⟩ : ∃ m, R.length = m := ⟨_, rfl⟩
  have HLM := Lib.hid hm
  rw [hm] at HIN1 HRL ⊢
  clear hm
  go_wp2_with fail
  go_loopw [6, 8] (fun lv iv wr => ∃ (i : Nat), lv = .bool (h0 || (R.take i).any pp) ∧ iv = .int .i64 i ∧ i ≤ m ∧ Hid (Two x t q w wr) ∧ Hid (Ints wr (.slice a m cc) R)) (fun _ iv _ => m - (intOf iv).toNat)
  case atStart => exact ⟨0, by simp, rfl, Nat.zero_le _, HTW, HIN1⟩
  case round =>
    clear HTW HIN1
    obtain ⟨i, rfl, rfl, hil, HTR, HIN⟩ := hrel
    have hnew := HTR.out
    have HTW := Lib.hid (hnew)
    have HTWt := Lib.hid HTW.out.bt
    have HTWw := Lib.hid HTW.out.bw
    have kt0 := HTWt.out.cell 0
    have kt1 := HTWt.out.cell 1
    have kt2 := HTWt.out.cell 2
    have kt3 := HTWt.out.cell 3
    have kt4 := HTWt.out.cell 4
    have kt5 := HTWt.out.cell 5
    have kt6 := HTWt.out.cell 6
    have kt7 := HTWt.out.cell 7
    have kt8 := HTWt.out.cell 8
    have kt9 := HTWt.out.cell 9
    have kt10 := HTWt.out.cell 10
    have kt11 := HTWt.out.cell 11
    have kt12 := HTWt.out.cell 12
    have kt13 := HTWt.out.cell 13
    have kt14 := HTWt.out.cell 14
    simp only [tabC, List.getElem?_cons_zero, List.getElem?_cons_succ] at kt0 kt1 kt2 kt3 kt4 kt5 kt6 kt7 kt8 kt9 kt10 kt11 kt12 kt13 kt14
    have b0 := HTWw.out.cell 0
    have b1 := HTWw.out.cell 1
    have b2 := HTWw.out.cell 2
    have b3 := HTWw.out.cell 3
    have b4 := HTWw.out.cell 4
    have b5 := HTWw.out.cell 5
    have b6 := HTWw.out.cell 6
    have b7 := HTWw.out.cell 7
    have b8 := HTWw.out.cell 8
    have b9 := HTWw.out.cell 9
    have bA := HTWw.out.cell 10
    have bB := HTWw.out.cell 11
    have bC := HTWw.out.cell 12
    simp only [worldC, List.getElem?_cons_zero, List.getElem?_cons_succ] at b0 b1 b2 b3 b4 b5 b6 b7 b8 b9 bA bB bC
    clear hnew HTR
    have hlt0 : w.heap.size < wr.heap.size := HTW.out.bt.lt
    have hlt1 : w.heap.size + 1 < wr.heap.size := HTW.out.bw.lt
    by_cases hlt : i < m
    · have hiL : i < R.length := by rw [HLM.out]; exact hlt
      obtain ⟨b, o, rfl, hb, hcs⟩ := HIN.out.at2 (by omega)
      have hci := hcs i hiL
      have HAT := Lib.hid (any_take (p := pp) hiL)
      generalize R[i] = c at *
      have HHc := Lib.hid (fun w' hb => HHA.out c w' hb)
      have hpc := HPP.out c
      generalize hasB d.fl n c 0 = hc at *
      have HPC := Lib.hid hpc
      clear hcs hpc hiL
      cases hbb : (h0 || (R.take i).any pp) with
      | true =>
        have HE : Hid ((h0 || (R.take (i + 1)).any pp) = true) := Lib.hid (by rw [HAT.out, ← Bool.or_assoc, hbb]; rfl)
        clear hbb
        go_wp2_with fail
        refine region_text (fun w' => Below wr.heap.size wr w') (by kernel_rfl) (by kernel_rfl) ((Below.refl _ _).drew) (fun KK hKK => ?_)
        intro OPS
        try simp only [List.append]
        repeat (first
          | (refine' inText_val ?_ ?_ ?_ ?_
             rotate_left 2
             · rfl
             · (intro w' hS; obtain ⟨hcc, hff⟩ := bcell hS; go_simp; first | with_reducible rfl | (rw [if_neg (by omega)]; done) | (rw [if_neg (by omega)]; with_reducible rfl) | (rw [if_pos (by omega)]; done) | (rw [if_pos (by omega)]; with_reducible rfl) | skip)
             · (simp only [Act.put, List.setIfInBounds_toArray, List.set_cons_zero, List.set_cons_succ]; with_reducible rfl))
          | (refine' inText_skip ?_ ?_ ?_
             rotate_left 1
             · rfl
             · (simp only [Act.put, List.setIfInBounds_toArray, List.set_cons_zero, List.set_cons_succ]; with_reducible rfl))
          | (refine' inText_call ?_ ?_ ?_ ?_ ?_
             rotate_left 4
             · rfl
             · (intro w' hS; obtain ⟨hcc, hff⟩ := bcell hS; go_simp; exact ⟨rfl, rfl⟩)
             · (intro w' hS
                (with_reducible refine (HHc.out w' (bl_then HTW.out.bl hS)).mono ?_); exact fun e w'' h => ⟨h.1, bl_then hS h.2⟩)
             · (simp only [Act.put, List.setIfInBounds_toArray, List.set_cons_zero, List.set_cons_succ]; with_reducible rfl)))
        refine inText_nil (hKK.out _ (fun w4 hS => ?_))
        have HT4 := Lib.hid (HTW.out.below hS)
        have HI4 := Lib.hid (HIN.out.below hS)
        clear hS hKK
        clear kt0 kt1 kt2 kt3 kt4 kt5 kt6 kt7 kt8 kt9 kt10 kt11 kt12 kt13 kt14
        clear b0 b1 b2 b3 b4 b5 b6 b7 b8 b9 bA bB bC
        clear HTWt HTWw
        go_wp2_with fail
        go_roundw
        case rel => exact ⟨i + 1, by rw [HE.out], by go_num, by omega, HT4, HI4⟩
        case measure => simp [intOf]; omega
      | false =>
        have HE : Hid ((h0 || (R.take (i + 1)).any pp) = hc) := Lib.hid (by rw [HAT.out, ← Bool.or_assoc, hbb, HPC.out]; rfl)
        clear hbb
        go_wp2_with fail
        refine region_text (fun w' => Below wr.heap.size wr w') (by kernel_rfl) (by kernel_rfl) ((Below.refl _ _).drew) (fun KK hKK => ?_)
        intro OPS
        try simp only [List.append]
        repeat (first
          | (refine' inText_val ?_ ?_ ?_ ?_
             rotate_left 2
             · rfl
             · (intro w' hS; obtain ⟨hcc, hff⟩ := bcell hS; go_simp; first | with_reducible rfl | (rw [if_neg (by omega)]; done) | (rw [if_neg (by omega)]; with_reducible rfl) | (rw [if_pos (by omega)]; done) | (rw [if_pos (by omega)]; with_reducible rfl) | skip)
             · (simp only [Act.put, List.setIfInBounds_toArray, List.set_cons_zero, List.set_cons_succ]; with_reducible rfl))
          | (refine' inText_skip ?_ ?_ ?_
             rotate_left 1
             · rfl
             · (simp only [Act.put, List.setIfInBounds_toArray, List.set_cons_zero, List.set_cons_succ]; with_reducible rfl))
          | (refine' inText_call ?_ ?_ ?_ ?_ ?_
             rotate_left 4
             · rfl
             · (intro w' hS; obtain ⟨hcc, hff⟩ := bcell hS; go_simp; exact ⟨rfl, rfl⟩)
             · (intro w' hS
                (with_reducible refine (HHc.out w' (bl_then HTW.out.bl hS)).mono ?_); exact fun e w'' h => ⟨h.1, bl_then hS h.2⟩)
             · (simp only [Act.put, List.setIfInBounds_toArray, List.set_cons_zero, List.set_cons_succ]; with_reducible rfl)))
        refine inText_nil (hKK.out _ (fun w4 hS => ?_))
        have HT4 := Lib.hid (HTW.out.below hS)
        have HI4 := Lib.hid (HIN.out.below hS)
        clear hS hKK
        clear kt0 kt1 kt2 kt3 kt4 kt5 kt6 kt7 kt8 kt9 kt10 kt11 kt12 kt13 kt14
        clear b0 b1 b2 b3 b4 b5 b6 b7 b8 b9 bA bB bC
        clear HTWt HTWw
        go_wp2_with fail
        go_roundw
        case rel => exact ⟨i + 1, by rw [HE.out], by go_num, by omega, HT4, HI4⟩
        case measure => simp [intOf]; omega
    · have HE : Hid (lb = (h0 || (R.take i).any pp)) := Lib.hid (by rw [HLB.out, List.take_of_length_le (by rw [HLM.out]; omega)])
      clear kt0 kt1 kt2 kt3 kt4 kt5 kt6 kt7 kt8 kt9 kt10 kt11 kt12 kt13 kt14
      clear b0 b1 b2 b3 b4 b5 b6 b7 b8 b9 bA bB bC
      clear HTWt HTWw
      go_wp2_with fail
      go_ret
      exact ⟨by rw [HE.out]; rfl, HTW.out.bl⟩
end Go.Proofs.YtjnpinfnpnohmaaDoor
