/- Contract of clewref23.Lit.; Contracts of clewref23.Carried, Visible, Sees.; Contracts of clewref36.named and in.; Plain law of NounItem and NounMany: what phrases name. -/
import Derived.Test.YtjggklfegcejhaaGreatWRefM
import Derived.Test.YtjggklfegcejhaaGreatTwo
import Derived.Test.YtjggklfegcejhaaGreatLit
import Derived.Test.YtjggklfegcejhaaGreatVis
import Derived.Test.YtjggklfegcejhaaGreatNounOne
import Derived.Test.YtjggklfegcejhaaGreatNounIs2
import Derived.Test.YtjggklfegcejhaaGreatNounLs
namespace Go.Proofs.YtjggklfegcejhaaGreat
open Go.RowKit Go.PlainAid
set_option linter.unusedVariables false
set_option linter.unusedSimpArgs false

theorem any_take {p : Int → Bool} {L : List Int} {i : Nat} (h : i < L.length) : (L.take (i + 1)).any p = ((L.take i).any p || p L[i]) := by
  rw [List.take_succ_eq_append_getElem h, List.any_append]; simp
set_option maxRecDepth 100000 in
set_option maxHeartbeats 8000000 in
theorem refLit (x : TAd) (t : TbC) (q : Wv) (d : WdC) (n : Nat) (w : World) (hW : WOk w q d n) (hd : ∀ x, (kidsW d.ch d.nx n x).Nodup) :
    Calls Tryz.prog 71 #[tabV x t, worldV q] w fun e w' => e = .returned (.bool (litB d n)) ∧ Below w.heap.size w w' := by
  have hnew := Two.new x t q w
  obtain ⟨W0, hW0⟩ : ∃ W0, (w.alloc (.cells (tabC x t).toArray 28)).alloc (.cells (worldC q).toArray 31) = W0 := ⟨_, rfl⟩
  rw [hW0] at hnew
  have HERE := Lib.hid (fun w' (hb : Below w.heap.size w w') => ref23Here q d n w' (hW.below hb))
  have HHA := Lib.hid (fun c w' (hb : Below w.heap.size w w') => ref23has q d c 0 n w' (hW.below hb) (by decide) (by decide))
  have HRE := Lib.hid (fun w' (hb : Below w.heap.size w w') => ref23reached q d n hd q.l1 (topOf d.pa n 1) w' (hW.below hb) (by rw [hW.len.h1]; exact hW.few))
  have HRL : (reachW (kidsW d.ch d.nx n) (fun c => hasB d.fl n c 3) (showB d.fl n) q.l1 (topOf d.pa n 1)).length ≤ n := reach_len hW.nest hW.pos hd (fun c => hasB d.fl n c 3) (showB d.fl n) q.l1 (topOf d.pa n 1)
  have HLB : Hid (litB d n = (hasB d.fl n (topOf d.pa n 1) 0 || (reachW (kidsW d.ch d.nx n) (fun c => hasB d.fl n c 3) (showB d.fl n) q.l1 (topOf d.pa n 1)).any (fun x => hasB d.fl n x 0))) := Lib.hid (by rw [hW.len.h1]; rfl)
  have hfew := hW.few
  generalize litB d n = lb at *
  generalize reachW (kidsW d.ch d.nx n) (fun c => hasB d.fl n c 3) (showB d.fl n) q.l1 (topOf d.pa n 1) = R at *
  generalize topOf d.pa n 1 = room at *
  have HH0 := Lib.hid (fun w' hb => HHA.out room w' hb)
  have HPP : Hid (∀ c, (fun x => hasB d.fl n x 0) c = hasB d.fl n c 0) := Lib.hid (fun c => rfl)
  generalize hasB d.fl n room 0 = h0 at *
  generalize (fun x => hasB d.fl n x 0) = pp at *
  have hm1 : q.l1 ≤ 1000 := by rw [hW.len.h1]; exact hfew
  clear hW
  have HTW := Lib.hid (hnew)
  have HTWt := Lib.hid HTW.out.bt
  have HTWw := Lib.hid HTW.out.bw
  obtain ⟨kt0, kt1, kt2, kt3, kt4, kt5, kt6, kt7, kt8, kt9, kt10, kt11, kt12, kt13, kt14⟩ := tab15 (HTWt.out)
  obtain ⟨b0, b1, b2, b3, b4, b5, b6, b7, b8, b9, bA, bB, bC⟩ := wd13 (HTWw.out)
  clear hnew
  unfold tabV worldV at *
  go_enter Tryz.func71, Tryz.ntmps71
  unfold worldC at HERE HHA HH0 HRE hW0 ⊢
  unfold tabC at hW0 ⊢
  go_wp2_with fail
  clear hW0
  refine (HERE.out _ HTW.out.bl).mono ?_
  rintro e w1 ⟨rfl, hb1⟩
  have hnew := HTW.out.below hb1
  clear hb1
  clear kt0 kt1 kt2 kt3 kt4 kt5 kt6 kt7 kt8 kt9 kt10 kt11 kt12 kt13 kt14
  clear b0 b1 b2 b3 b4 b5 b6 b7 b8 b9 bA bB bC
  clear HTWt HTWw
  clear HTW
  have HTW := Lib.hid (hnew)
  have HTWt := Lib.hid HTW.out.bt
  have HTWw := Lib.hid HTW.out.bw
  obtain ⟨kt0, kt1, kt2, kt3, kt4, kt5, kt6, kt7, kt8, kt9, kt10, kt11, kt12, kt13, kt14⟩ := tab15 (HTWt.out)
  obtain ⟨b0, b1, b2, b3, b4, b5, b6, b7, b8, b9, bA, bB, bC⟩ := wd13 (HTWw.out)
  clear hnew
  go_wp2_with fail
  refine (HH0.out _ HTW.out.bl).mono ?_
  rintro e w2 ⟨rfl, hb2⟩
  have hnew := HTW.out.below hb2
  clear hb2
  clear kt0 kt1 kt2 kt3 kt4 kt5 kt6 kt7 kt8 kt9 kt10 kt11 kt12 kt13 kt14
  clear b0 b1 b2 b3 b4 b5 b6 b7 b8 b9 bA bB bC
  clear HTWt HTWw
  clear HTW
  have HTW := Lib.hid (hnew)
  have HTWt := Lib.hid HTW.out.bt
  have HTWw := Lib.hid HTW.out.bw
  obtain ⟨kt0, kt1, kt2, kt3, kt4, kt5, kt6, kt7, kt8, kt9, kt10, kt11, kt12, kt13, kt14⟩ := tab15 (HTWt.out)
  obtain ⟨b0, b1, b2, b3, b4, b5, b6, b7, b8, b9, bA, bB, bC⟩ := wd13 (HTWw.out)
  clear hnew
  go_wp2_with fail
  refine (HRE.out _ HTW.out.bl).mono ?_
  rintro e w3 ⟨v, rfl, g1, g2⟩
  obtain ⟨a, cc, rfl⟩ := g1.shape
  have HIN1 := Lib.hid (g1.ints (by unfold maxLen; omega))
  clear g1
  have hnew := HTW.out.below g2
  clear g2
  clear kt0 kt1 kt2 kt3 kt4 kt5 kt6 kt7 kt8 kt9 kt10 kt11 kt12 kt13 kt14
  clear b0 b1 b2 b3 b4 b5 b6 b7 b8 b9 bA bB bC
  clear HTWt HTWw
  clear HTW
  have HTW := Lib.hid (hnew)
  have HTWt := Lib.hid HTW.out.bt
  have HTWw := Lib.hid HTW.out.bw
  obtain ⟨kt0, kt1, kt2, kt3, kt4, kt5, kt6, kt7, kt8, kt9, kt10, kt11, kt12, kt13, kt14⟩ := tab15 (HTWt.out)
  obtain ⟨b0, b1, b2, b3, b4, b5, b6, b7, b8, b9, bA, bB, bC⟩ := wd13 (HTWw.out)
  clear hnew
  clear kt0 kt1 kt2 kt3 kt4 kt5 kt6 kt7 kt8 kt9 kt10 kt11 kt12 kt13 kt14
  clear b0 b1 b2 b3 b4 b5 b6 b7 b8 b9 bA bB bC
  clear HTWt HTWw
  obtain ⟨m, hm⟩ : ∃ m, R.length = m := ⟨_, rfl⟩
  have HLM := Lib.hid hm
  rw [hm] at HIN1 HRL ⊢
  clear hm
  go_wp2_with fail
  go_loopw [6, 8] (fun lv iv wr => ∃ (i : Nat), lv = .bool (h0 || (R.take i).any pp) ∧ iv = .int .i64 i ∧ i ≤ m ∧ Hid (Two x t q w wr) ∧ Hid (Ints wr (.slice a m cc) R)) (fun _ iv _ => m - (intOf iv).toNat)
  case atStart => exact ⟨0, by simp, rfl, Nat.zero_le _, HTW, HIN1⟩
  case round =>
    clear HTW HIN1
    obtain ⟨i, rfl, rfl, hil, HTR, HIN⟩ := hrel
    have hnew := HTR.out
    have HTW := Lib.hid (hnew)
    have HTWt := Lib.hid HTW.out.bt
    have HTWw := Lib.hid HTW.out.bw
    obtain ⟨kt0, kt1, kt2, kt3, kt4, kt5, kt6, kt7, kt8, kt9, kt10, kt11, kt12, kt13, kt14⟩ := tab15 (HTWt.out)
    obtain ⟨b0, b1, b2, b3, b4, b5, b6, b7, b8, b9, bA, bB, bC⟩ := wd13 (HTWw.out)
    clear hnew HTR
    have hlt0 : w.heap.size < wr.heap.size := HTW.out.bt.lt
    have hlt1 : w.heap.size + 1 < wr.heap.size := HTW.out.bw.lt
    by_cases hlt : i < m
    · have hiL : i < R.length := by rw [HLM.out]; exact hlt
      obtain ⟨b, o, rfl, hb, hcs⟩ := HIN.out.at2 (by omega)
      have hci := hcs i hiL
      have HAT := Lib.hid (any_take (p := pp) hiL)
      generalize R[i] = c at *
      have HHc := Lib.hid (fun w' hb => HHA.out c w' hb)
      have hpc := HPP.out c
      generalize hasB d.fl n c 0 = hc at *
      have HPC := Lib.hid hpc
      clear hcs hpc hiL
      cases hbb : (h0 || (R.take i).any pp) with
      | true =>
        have HE : Hid ((h0 || (R.take (i + 1)).any pp) = true) := Lib.hid (by rw [HAT.out, ← Bool.or_assoc, hbb]; rfl)
        clear hbb
        go_wp2_with fail
        refine region_text (fun w' => Below wr.heap.size wr w') (by kernel_rfl) (by kernel_rfl) ((Below.refl _ _).drew) (fun KK hKK => ?_)
        intro OPS
        try simp only [List.append]
        repeat (first
          | (refine' inText_val ?_ ?_ ?_ ?_
             rotate_left 2
             · rfl
             · (intro w' hS; obtain ⟨hcc, hff⟩ := bcell hS; go_simp; first | with_reducible rfl | (rw [if_neg (by omega)]; done) | (rw [if_neg (by omega)]; with_reducible rfl) | (rw [if_pos (by omega)]; done) | (rw [if_pos (by omega)]; with_reducible rfl) | skip)
             · (simp only [Act.put, List.setIfInBounds_toArray, List.set_cons_zero, List.set_cons_succ]; with_reducible rfl))
          | (refine' inText_skip ?_ ?_ ?_
             rotate_left 1
             · rfl
             · (simp only [Act.put, List.setIfInBounds_toArray, List.set_cons_zero, List.set_cons_succ]; with_reducible rfl))
          | (refine' inText_call ?_ ?_ ?_ ?_ ?_
             rotate_left 4
             · rfl
             · (intro w' hS; obtain ⟨hcc, hff⟩ := bcell hS; go_simp; exact ⟨rfl, rfl⟩)
             · (intro w' hS
                (with_reducible refine (HHc.out w' (bl_then HTW.out.bl hS)).mono ?_); exact fun e w'' h => ⟨h.1, bl_then hS h.2⟩)
             · (simp only [Act.put, List.setIfInBounds_toArray, List.set_cons_zero, List.set_cons_succ]; with_reducible rfl)))
        refine inText_nil (hKK.out _ (fun w4 hS => ?_))
        have HT4 := Lib.hid (HTW.out.below hS)
        have HI4 := Lib.hid (HIN.out.below hS)
        clear hS hKK
        clear kt0 kt1 kt2 kt3 kt4 kt5 kt6 kt7 kt8 kt9 kt10 kt11 kt12 kt13 kt14
        clear b0 b1 b2 b3 b4 b5 b6 b7 b8 b9 bA bB bC
        clear HTWt HTWw
        go_wp2_with fail
        go_roundw
        case rel => exact ⟨i + 1, by rw [HE.out], by go_num, by omega, HT4, HI4⟩
        case measure => simp [intOf]; omega
      | false =>
        have HE : Hid ((h0 || (R.take (i + 1)).any pp) = hc) := Lib.hid (by rw [HAT.out, ← Bool.or_assoc, hbb, HPC.out]; rfl)
        clear hbb
        go_wp2_with fail
        refine region_text (fun w' => Below wr.heap.size wr w') (by kernel_rfl) (by kernel_rfl) ((Below.refl _ _).drew) (fun KK hKK => ?_)
        intro OPS
        try simp only [List.append]
        repeat (first
          | (refine' inText_val ?_ ?_ ?_ ?_
             rotate_left 2
             · rfl
             · (intro w' hS; obtain ⟨hcc, hff⟩ := bcell hS; go_simp; first | with_reducible rfl | (rw [if_neg (by omega)]; done) | (rw [if_neg (by omega)]; with_reducible rfl) | (rw [if_pos (by omega)]; done) | (rw [if_pos (by omega)]; with_reducible rfl) | skip)
             · (simp only [Act.put, List.setIfInBounds_toArray, List.set_cons_zero, List.set_cons_succ]; with_reducible rfl))
          | (refine' inText_skip ?_ ?_ ?_
             rotate_left 1
             · rfl
             · (simp only [Act.put, List.setIfInBounds_toArray, List.set_cons_zero, List.set_cons_succ]; with_reducible rfl))
          | (refine' inText_call ?_ ?_ ?_ ?_ ?_
             rotate_left 4
             · rfl
             · (intro w' hS; obtain ⟨hcc, hff⟩ := bcell hS; go_simp; exact ⟨rfl, rfl⟩)
             · (intro w' hS
                (with_reducible refine (HHc.out w' (bl_then HTW.out.bl hS)).mono ?_); exact fun e w'' h => ⟨h.1, bl_then hS h.2⟩)
             · (simp only [Act.put, List.setIfInBounds_toArray, List.set_cons_zero, List.set_cons_succ]; with_reducible rfl)))
        refine inText_nil (hKK.out _ (fun w4 hS => ?_))
        have HT4 := Lib.hid (HTW.out.below hS)
        have HI4 := Lib.hid (HIN.out.below hS)
        clear hS hKK
        clear kt0 kt1 kt2 kt3 kt4 kt5 kt6 kt7 kt8 kt9 kt10 kt11 kt12 kt13 kt14
        clear b0 b1 b2 b3 b4 b5 b6 b7 b8 b9 bA bB bC
        clear HTWt HTWw
        go_wp2_with fail
        go_roundw
        case rel => exact ⟨i + 1, by rw [HE.out], by go_num, by omega, HT4, HI4⟩
        case measure => simp [intOf]; omega
    · have HE : Hid (lb = (h0 || (R.take i).any pp)) := Lib.hid (by rw [HLB.out, List.take_of_length_le (by rw [HLM.out]; omega)])
      clear kt0 kt1 kt2 kt3 kt4 kt5 kt6 kt7 kt8 kt9 kt10 kt11 kt12 kt13 kt14
      clear b0 b1 b2 b3 b4 b5 b6 b7 b8 b9 bA bB bC
      clear HTWt HTWw
      go_wp2_with fail
      go_ret
      exact ⟨by rw [HE.out]; rfl, HTW.out.bl⟩
end Go.Proofs.YtjggklfegcejhaaGreat
namespace Go.Proofs.YtjggklfegcejhaaGreat
open Go.RowKit Go.PlainAid
set_option linter.unusedVariables false
set_option linter.unusedSimpArgs false


set_option maxRecDepth 100000 in
set_option maxHeartbeats 8000000 in
theorem ref23Carried (x : TAd) (t : TbC) (q : Wv) (d : WdC) (n : Nat) (w : World) (hW : WOk w q d n) (hd : ∀ x, (kidsW d.ch d.nx n x).Nodup) :
    Calls Tryz.prog 15 #[tabV x t, worldV q] w (RetIntsR w (reachV d n 1)) := by
  have hnew := Two.new x t q w
  obtain ⟨W0, hW0⟩ : ∃ W0, (w.alloc (.cells (tabC x t).toArray 28)).alloc (.cells (worldC q).toArray 31) = W0 := ⟨_, rfl⟩
  rw [hW0] at hnew
  have HRE := Lib.hid (fun w' (hb : Below w.heap.size w w') => ref23reached q d n hd q.l1 1 w' (hW.below hb) (by rw [hW.len.h1]; exact hW.few))
  have HE : Hid (reachW (kidsW d.ch d.nx n) (fun c => hasB d.fl n c 3) (showB d.fl n) q.l1 1 = reachV d n 1) := Lib.hid (by rw [hW.len.h1]; rfl)
  have HSZ : Hid (w.heap.size ≤ W0.heap.size) := Lib.hid hnew.bl.size
  have hm1 : q.l1 ≤ 1000 := by rw [hW.len.h1]; exact hW.few
  generalize reachW (kidsW d.ch d.nx n) (fun c => hasB d.fl n c 3) (showB d.fl n) q.l1 1 = R at *
  rw [← HE.out]
  clear hW HE
  have HTW := Lib.hid (hnew)
  have HTWt := Lib.hid HTW.out.bt
  have HTWw := Lib.hid HTW.out.bw
  obtain ⟨kt0, kt1, kt2, kt3, kt4, kt5, kt6, kt7, kt8, kt9, kt10, kt11, kt12, kt13, kt14⟩ := tab15 (HTWt.out)
  obtain ⟨b0, b1, b2, b3, b4, b5, b6, b7, b8, b9, bA, bB, bC⟩ := wd13 (HTWw.out)
  clear hnew
  unfold tabV worldV at *
  go_enter Tryz.func15, Tryz.ntmps15
  unfold worldC at HRE hW0 ⊢
  unfold tabC at hW0 ⊢
  go_wp2_with fail
  clear hW0
  refine (HRE.out _ HTW.out.bl).mono ?_
  rintro e w1 ⟨v, rfl, g1, g2⟩
  have HG1 := Lib.hid (g1.base HSZ.out)
  have HB1 := Lib.hid (bl_then HTW.out.bl g2)
  clear g1 g2
  clear kt0 kt1 kt2 kt3 kt4 kt5 kt6 kt7 kt8 kt9 kt10 kt11 kt12 kt13 kt14
  clear b0 b1 b2 b3 b4 b5 b6 b7 b8 b9 bA bB bC
  clear HTWt HTWw
  go_wp2_with fail
  go_ret
  exact ⟨v, rfl, HG1.out, HB1.out⟩
/-- So many of what is reached, without the player. -/
theorem vis_take {L : List Int} {i : Nat} (h : i < L.length) : (L.take (i + 1)).filter (fun x => !(x == 1)) = (L.take i).filter (fun x => !(x == 1)) ++ (if L[i] = 1 then [] else [L[i]]) := by
  rw [List.take_succ_eq_append_getElem h, List.filter_append]
  congr 1
  by_cases e : L[i] = 1
  · simp [e]
  · simp [e]
theorem info_intV : (Tryz.prog.info? 3).map (fun i => (i.zero, i.size, i.bytes)) = some (some (.int .i64 0), 1, 8) := by kernel_rfl
set_option maxRecDepth 100000 in
set_option maxHeartbeats 8000000 in
theorem ref23Visible (x : TAd) (t : TbC) (q : Wv) (d : WdC) (n : Nat) (w : World) (hW : WOk w q d n) (hd : ∀ x, (kidsW d.ch d.nx n x).Nodup) :
    Calls Tryz.prog 32 #[tabV x t, worldV q] w (RetIntsR w (visN d n)) := by
  have hnew := Two.new x t q w
  obtain ⟨W0, hW0⟩ : ∃ W0, (w.alloc (.cells (tabC x t).toArray 28)).alloc (.cells (worldC q).toArray 31) = W0 := ⟨_, rfl⟩
  rw [hW0] at hnew
  have HLI := Lib.hid (fun w' (hb : Below w.heap.size w w') => refLit x t q d n w' (hW.below hb) hd)
  have HCA := Lib.hid (fun w' (hb : Below w.heap.size w w') => ref23Carried x t q d n w' (hW.below hb) hd)
  have HHE := Lib.hid (fun w' (hb : Below w.heap.size w w') => ref23Here q d n w' (hW.below hb))
  have HRE := Lib.hid (fun w' (hb : Below w.heap.size w w') => ref23reached q d n hd q.l1 (topOf d.pa n 1) w' (hW.below hb) (by rw [hW.len.h1]; exact hW.few))
  have HE : Hid (reachW (kidsW d.ch d.nx n) (fun c => hasB d.fl n c 3) (showB d.fl n) q.l1 (topOf d.pa n 1) = reachV d n (topOf d.pa n 1)) := Lib.hid (by rw [hW.len.h1]; rfl)
  have HRL : (reachW (kidsW d.ch d.nx n) (fun c => hasB d.fl n c 3) (showB d.fl n) q.l1 (topOf d.pa n 1)).length ≤ n := reach_len hW.nest hW.pos hd (fun c => hasB d.fl n c 3) (showB d.fl n) q.l1 (topOf d.pa n 1)
  have HVI : Hid (visN d n = if litB d n = true then (reachV d n (topOf d.pa n 1)).filter (fun x => !(x == 1)) else reachV d n 1) := Lib.hid rfl
  have HSZ : Hid (w.heap.size ≤ W0.heap.size) := Lib.hid hnew.bl.size
  have hfew := hW.few
  have hm1 : q.l1 ≤ 1000 := by rw [hW.len.h1]; exact hW.few
  generalize reachW (kidsW d.ch d.nx n) (fun c => hasB d.fl n c 3) (showB d.fl n) q.l1 (topOf d.pa n 1) = R at *
  rw [← HE.out] at HVI
  clear HE
  generalize topOf d.pa n 1 = room at *
  generalize visN d n = V at *
  generalize reachV d n 1 = C1 at *
  generalize litB d n = lit at *
  clear hW
  obtain ⟨i0, hi, hz0, hz1, hz2⟩ := info_parts info_intV
  have HTW := Lib.hid (hnew)
  have HTWt := Lib.hid HTW.out.bt
  have HTWw := Lib.hid HTW.out.bw
  obtain ⟨kt0, kt1, kt2, kt3, kt4, kt5, kt6, kt7, kt8, kt9, kt10, kt11, kt12, kt13, kt14⟩ := tab15 (HTWt.out)
  obtain ⟨b0, b1, b2, b3, b4, b5, b6, b7, b8, b9, bA, bB, bC⟩ := wd13 (HTWw.out)
  clear hnew
  unfold tabV worldV at *
  go_enter Tryz.func32, Tryz.ntmps32
  unfold worldC at HLI HCA HHE HRE hW0 ⊢
  unfold tabC at HLI HCA hW0 ⊢
  go_wp2_with fail
  clear hW0
  refine (HLI.out _ HTW.out.bl).mono ?_
  rintro e w1 ⟨rfl, hb1⟩
  have hnew := HTW.out.below hb1
  clear kt0 kt1 kt2 kt3 kt4 kt5 kt6 kt7 kt8 kt9 kt10 kt11 kt12 kt13 kt14
  clear b0 b1 b2 b3 b4 b5 b6 b7 b8 b9 bA bB bC
  clear HTWt HTWw
  clear HTW
  have HTW := Lib.hid (hnew)
  have HTWt := Lib.hid HTW.out.bt
  have HTWw := Lib.hid HTW.out.bw
  obtain ⟨kt0, kt1, kt2, kt3, kt4, kt5, kt6, kt7, kt8, kt9, kt10, kt11, kt12, kt13, kt14⟩ := tab15 (HTWt.out)
  obtain ⟨b0, b1, b2, b3, b4, b5, b6, b7, b8, b9, bA, bB, bC⟩ := wd13 (HTWw.out)
  clear hnew
  clear hb1
  cases lit with
  | false =>
    have HV2 : Hid (V = C1) := Lib.hid (by rw [HVI.out]; rfl)
    go_wp2_with fail
    refine (HCA.out _ HTW.out.bl).mono ?_
    rintro e w2 ⟨v, rfl, g1, g2⟩
    have HG1 := Lib.hid (g1.base HTW.out.bl.size)
    have HB1 := Lib.hid (bl_then HTW.out.bl g2)
    clear g1 g2
    clear kt0 kt1 kt2 kt3 kt4 kt5 kt6 kt7 kt8 kt9 kt10 kt11 kt12 kt13 kt14
    clear b0 b1 b2 b3 b4 b5 b6 b7 b8 b9 bA bB bC
    clear HTWt HTWw
    go_wp2_with fail
    go_ret
    exact ⟨v, rfl, by rw [HV2.out]; exact HG1.out, HB1.out⟩
  | true =>
    have HV2 : Hid (V = R.filter (fun x => !(x == 1))) := Lib.hid (by rw [HVI.out]; rfl)
    clear HVI
    go_wp2_with fail
    have hzw : w.heap.size + 1 < w1.heap.size := HTW.out.bw.lt
    refine region_ways (.rd 0 (.rd 1 (.rd 3 (.rd 4 (.rd 5 (.one 2 (.one 6 (.one 7 .done)))))))) (fun w' => Below w1.heap.size w1 w') (by kernel_rfl) (by kernel_rfl) ((Below.refl _ _).drew) (fun KK hKK => ?_)
    intro OPS
    simp only [Ways.see, List.getElem?_cons_zero, List.getElem?_cons_succ]
    iterate 5
      (refine' inWays_read ?_ ?_ ?_ ?_
       rotate_left 2
       · rfl
       · (intro w' hS; obtain ⟨hcc, hff⟩ := bcell hS; go_simp; first | done | with_reducible rfl)
       · (simp only [Act.put, List.setIfInBounds_toArray, List.set_cons_zero, List.set_cons_succ]; with_reducible rfl))
    refine' inWays_call ?_ ?_ ?_
    rotate_left 2
    · rfl
    · (obtain ⟨hcc, hff⟩ := bcell ((Below.refl w1.heap.size w1).drew); go_simp; first | done | exact ⟨rfl, rfl⟩)
    refine (HHE.out _ (bl_then HTW.out.bl ((Below.refl w1.heap.size w1).drew))).mono ?_
    rintro e w2 ⟨rfl, hb2⟩
    have HB2 : Hid (Below w1.heap.size w1 w2) := Lib.hid (bl_then ((Below.refl w1.heap.size w1).drew) hb2)
    clear hb2
    refine ⟨_, rfl, HB2.out, ?_⟩
    simp only [Act.put, List.setIfInBounds_toArray, List.set_cons_zero, List.set_cons_succ]
    refine' inWays_call ?_ ?_ ?_
    rotate_left 2
    · rfl
    · (obtain ⟨hcc, hff⟩ := bcell HB2.out; go_simp; first | done | exact ⟨rfl, rfl⟩)
    refine (HRE.out _ (bl_then HTW.out.bl HB2.out)).mono ?_
    rintro e w3 ⟨v, rfl, g1, g2⟩
    obtain ⟨a, cc, rfl⟩ := g1.shape
    have HB3 : Hid (Below w1.heap.size w1 w3) := Lib.hid (bl_then HB2.out g2)
    have HIN1 := Lib.hid (g1.ints (by unfold maxLen; omega))
    clear g1 g2
    refine ⟨_, rfl, HB3.out, ?_⟩
    simp only [Act.put, List.setIfInBounds_toArray, List.set_cons_zero, List.set_cons_succ]
    refine' inWays_val ?_ ?_ ?_ ?_ ?_
    rotate_left 3
    · rfl
    · (obtain ⟨hcc, hff⟩ := bcell HB3.out; go_simp; first | done | exact ⟨rfl, rfl⟩ | with_reducible rfl)
    · exact HB3.out
    · (simp only [Act.put, List.setIfInBounds_toArray, List.set_cons_zero, List.set_cons_succ]; with_reducible rfl)
    refine inWays_nil (hKK.out _ _ ?_)
    clear hKK OPS
    clear hzw
    have HBW := Lib.hid (bl_then HTW.out.bl HB3.out)
    clear kt0 kt1 kt2 kt3 kt4 kt5 kt6 kt7 kt8 kt9 kt10 kt11 kt12 kt13 kt14
    clear b0 b1 b2 b3 b4 b5 b6 b7 b8 b9 bA bB bC
    clear HTWt HTWw
    obtain ⟨m, hm⟩ : ∃ m, R.length = m := ⟨_, rfl⟩
    have HLM := Lib.hid hm
    rw [hm] at HIN1 HRL ⊢
    clear hm
    have HZ3 : Hid (w.heap.size ≤ w3.heap.size) := Lib.hid HBW.out.size
    go_wp2_with fail
    go_loopw [5, 7] (fun ov iv wr => ∃ (i j : Nat) (va : Option Addr) (vc : Nat), ov = .slice va j vc ∧ iv = .int .i64 i ∧ i ≤ m ∧ Hid (((R.take i).filter (fun x => !(x == 1))).length = j) ∧ Hid (OwnInts w3.heap.size wr (.slice va j vc) ((R.take i).filter (fun x => !(x == 1)))) ∧ Hid (Below w3.heap.size w3 wr)) (fun _ iv _ => m - (intOf iv).toNat)
    case atStart => exact ⟨0, 0, none, 0, rfl, rfl, Nat.zero_le _, Lib.hid rfl, Lib.hid ⟨World.ownsRow_nil _ _ _ _, fun _ => rfl⟩, Lib.hid (Below.refl _ _)⟩
    case round =>
      obtain ⟨i, j, va, vc, rfl, rfl, hil, HPL, HOW, HBL⟩ := hrel
      by_cases hlt : i < m
      · have hlt2 : (i : Int) < (m : Int) := by omega
        have hiL : i < R.length := by rw [HLM.out]; exact hlt
        obtain ⟨b, o, ha, hb, hcs⟩ := HIN1.out.at2 (by omega)
        subst ha
        have hci := (HBL.out.cell (p := ⟨b, o + i, none⟩) hb).trans (hcs i hiL)
        have HF := Lib.hid (vis_take hiL)
        have hj : j ≤ 1000 := by
          have h1 := List.length_filter_le (fun x => !(x == 1)) (R.take i)
          rw [HPL.out, List.length_take] at h1
          omega
        have hzr : w3.heap.size ≤ wr.heap.size := HBL.out.size
        generalize R[i] = c at *
        clear hcs hiL
        by_cases hc : c = 1
        · have HE : Hid ((R.take (i + 1)).filter (fun x => !(x == 1)) = (R.take i).filter (fun x => !(x == 1))) := Lib.hid (by rw [HF.out, if_pos hc]; simp)
          subst hc
          go_wp2_with fail
          go_roundw
          case rel => exact ⟨i + 1, j, va, vc, rfl, by go_num, by omega, Lib.hid (by rw [HE.out]; exact HPL.out), Lib.hid (by rw [HE.out]; exact HOW.out), HBL⟩
          case measure => simp [intOf]; omega
        · have HE : Hid ((R.take (i + 1)).filter (fun x => !(x == 1)) = (R.take i).filter (fun x => !(x == 1)) ++ [c]) := Lib.hid (by rw [HF.out, if_neg hc])
          have e1 : (c == 1) = false := by simp [hc]
          generalize (R.take i).filter (fun x => !(x == 1)) = pre at *
          have hown : wr.ownsRow w3.heap.size 3 1 (.slice va j vc) j (pre.map (Value.int .i64)) := by have := HOW.out.1; rwa [HPL.out] at this
          have HLO := Lib.hid (ow_lo hown)
          have HWN := Lib.hid (hown.alloc (.cells #[.int .i64 c] 3))
          have HBA := Lib.hid (bl_a HBL.out (.cells #[.int .i64 c] 3))
          clear hown HF
          have HCI := Lib.hid hci
          go_wp2_with (at_builtin; refine wpList_append_own _ rfl _ _ 23 rfl w3.heap.size 3 i0 (.int .i64 0) 1 8 Tryz.underlying23 hi hz0 hz1 hz2 rfl (by decide) _ j (pre.map (Value.int .i64)) rfl HWN.out ⟨wr.heap.size, 0, none⟩ 1 1 [.int .i64 c] rfl rfl (int_newS _ _ _) (ow_one rfl) (by unfold maxLen; omega) (by omega) (by simp; omega) ?_; intro v5 w5 hown3 hgrow3 _; obtain ⟨g3, cap3, rfl⟩ := ownsRow_succ hown3; have HO3 : Hid (OwnInts w3.heap.size w5 (.slice (some ⟨g3, 0, none⟩) (j + 1) cap3) (pre ++ [c])) := Lib.hid ⟨by rw [List.length_append, HPL.out]; simpa using hown3, fun e => by simp at e⟩; have HB5 := Lib.hid (bl_g HBA.out hgrow3 HLO.out); clear hown3 hgrow3)
          go_roundw
          case rel => exact ⟨i + 1, j + 1, _, cap3, rfl, by go_num, by omega, Lib.hid (by rw [HE.out, List.length_append, HPL.out]; rfl), Lib.hid (by rw [HE.out]; exact HO3.out), HB5⟩
          case measure => simp [intOf]; omega
      · have HE : Hid (V = (R.take i).filter (fun x => !(x == 1))) := Lib.hid (by rw [HV2.out, List.take_of_length_le (by rw [HLM.out]; omega)])
        go_wp2_with fail
        go_ret
        exact ⟨_, rfl, by rw [HE.out]; exact HOW.out.base HZ3.out, bl_then HBW.out HBL.out⟩
theorem visN_len {d : WdC} {n : Nat} (h : NestW d.pa d.ch d.nx n) (hn : 1 ≤ n) (hd : ∀ x, (kidsW d.ch d.nx n x).Nodup) : (visN d n).length ≤ n := by
  unfold visN
  split
  · exact Nat.le_trans (List.length_filter_le _ _) (reach_len h hn hd _ _ _ _)
  · exact reach_len h hn hd _ _ _ _
set_option maxRecDepth 100000 in
set_option maxHeartbeats 8000000 in
theorem ref23Sees (x : TAd) (t : TbC) (q : Wv) (d : WdC) (n : Nat) (y : Int) (w : World) (hW : WOk w q d n) (hd : ∀ x, (kidsW d.ch d.nx n x).Nodup) :
    Calls Tryz.prog 12 #[tabV x t, worldV q, .int .i64 y] w fun e w' => e = .returned (.bool (seesN d n y)) ∧ Below w.heap.size w w' := by
  have hnew := Two.new x t q w
  obtain ⟨W0, hW0⟩ : ∃ W0, (w.alloc (.cells (tabC x t).toArray 28)).alloc (.cells (worldC q).toArray 31) = W0 := ⟨_, rfl⟩
  rw [hW0] at hnew
  have HVI := Lib.hid (fun w' (hb : Below w.heap.size w w') => ref23Visible x t q d n w' (hW.below hb) hd)
  have HHE := Lib.hid (fun w' (hb : Below w.heap.size w w') => ref23Here q d n w' (hW.below hb))
  have HVL : (visN d n).length ≤ n := visN_len hW.nest hW.pos hd
  have HS : Hid (seesN d n y = (y == 1 || y == topOf d.pa n 1 || (visN d n).contains y)) := Lib.hid rfl
  have hfew := hW.few
  generalize topOf d.pa n 1 = room at *
  generalize visN d n = V at *
  generalize seesN d n y = rv at *
  clear hW
  have HTW := Lib.hid (hnew)
  have HTWt := Lib.hid HTW.out.bt
  have HTWw := Lib.hid HTW.out.bw
  obtain ⟨kt0, kt1, kt2, kt3, kt4, kt5, kt6, kt7, kt8, kt9, kt10, kt11, kt12, kt13, kt14⟩ := tab15 (HTWt.out)
  obtain ⟨b0, b1, b2, b3, b4, b5, b6, b7, b8, b9, bA, bB, bC⟩ := wd13 (HTWw.out)
  clear hnew
  unfold tabV worldV at *
  go_enter Tryz.func12, Tryz.ntmps12
  unfold worldC at HVI HHE hW0 ⊢
  unfold tabC at HVI hW0 ⊢
  go_wp2_with fail
  clear hW0
  refine (HVI.out _ HTW.out.bl).mono ?_
  rintro e w1 ⟨v, rfl, g1, g2⟩
  obtain ⟨a, cc, rfl⟩ := g1.shape
  have HIN := Lib.hid (g1.ints (by unfold maxLen; omega))
  clear g1
  have hnew := HTW.out.below g2
  clear kt0 kt1 kt2 kt3 kt4 kt5 kt6 kt7 kt8 kt9 kt10 kt11 kt12 kt13 kt14
  clear b0 b1 b2 b3 b4 b5 b6 b7 b8 b9 bA bB bC
  clear HTWt HTWw
  clear HTW
  have HTW := Lib.hid (hnew)
  have HTWt := Lib.hid HTW.out.bt
  have HTWw := Lib.hid HTW.out.bw
  obtain ⟨kt0, kt1, kt2, kt3, kt4, kt5, kt6, kt7, kt8, kt9, kt10, kt11, kt12, kt13, kt14⟩ := tab15 (HTWt.out)
  obtain ⟨b0, b1, b2, b3, b4, b5, b6, b7, b8, b9, bA, bB, bC⟩ := wd13 (HTWw.out)
  clear hnew
  clear g2
  obtain ⟨m, hm⟩ : ∃ m, V.length = m := ⟨_, rfl⟩
  have HLM := Lib.hid hm
  rw [hm] at HIN HVL ⊢
  clear hm
  go_wp2_with fail
  clear kt0 kt1 kt2 kt3 kt4 kt5 kt6 kt7 kt8 kt9 kt10 kt11 kt12 kt13 kt14
  clear b0 b1 b2 b3 b4 b5 b6 b7 b8 b9 bA bB bC
  clear HTWt HTWw
  go_loop [8] (fun iv => ∃ i : Nat, iv = .int .i64 i ∧ i ≤ m ∧ Hid (∀ j (h : j < V.length), j < i → V[j] ≠ y)) (fun iv => m - (intOf iv).toNat)
  case atStart => exact ⟨0, rfl, Nat.zero_le _, Lib.hid (fun j _ h => by omega)⟩
  case round =>
    obtain ⟨i, rfl, hil, HI⟩ := hrel
    by_cases hlt : i < m
    · have hlt2 : (i : Int) < (m : Int) := by omega
      have hiL : i < V.length := by rw [HLM.out]; exact hlt
      obtain ⟨b, o, rfl, hb, hcs⟩ := HIN.out.at2 (by omega)
      have hci := hcs i hiL
      have HMEM := Lib.hid (List.getElem_mem hiL)
      obtain ⟨c, hc⟩ : ∃ c, V[i] = c := ⟨_, rfl⟩
      rw [hc] at hci HMEM
      have HX := Lib.hid hc
      clear hcs hc
      by_cases hcy : c = y
      · have HT : Hid (rv = true) := Lib.hid (by
          rw [HS.out, Bool.or_eq_true, List.contains_iff_mem]
          exact .inr (by rw [← hcy]; exact HMEM.out))
        have e1 : (c == y) = true := by simp [hcy]
        go_wp2_with fail
        go_ret
        exact ⟨by rw [HT.out]; rfl, HTW.out.bl⟩
      · have e1 : (c == y) = false := by simp [hcy]
        have HI2 : Hid (∀ j (h : j < V.length), j < i + 1 → V[j] ≠ y) := Lib.hid (fun j h hj => by
          by_cases e : j = i
          · subst e; rw [HX.out]; exact hcy
          · exact HI.out j h (by omega))
        go_wp2_with fail
        go_round
        case rel => exact ⟨i + 1, by go_num, by omega, HI2⟩
        case measure => simp [intOf]; omega
    · have HNO : Hid (V.contains y = false) := Lib.hid (by
        rw [← Bool.not_eq_true, List.contains_iff_mem]
        intro hm
        obtain ⟨j, hj, e⟩ := List.getElem_of_mem hm
        exact HI.out j hj (by rw [HLM.out] at hj; omega) e)
      have HTW := Lib.hid (HTW.out)
      have HTWt := Lib.hid HTW.out.bt
      have HTWw := Lib.hid HTW.out.bw
      obtain ⟨kt0, kt1, kt2, kt3, kt4, kt5, kt6, kt7, kt8, kt9, kt10, kt11, kt12, kt13, kt14⟩ := tab15 (HTWt.out)
      obtain ⟨b0, b1, b2, b3, b4, b5, b6, b7, b8, b9, bA, bB, bC⟩ := wd13 (HTWw.out)
      by_cases hy1 : y = 1
      · have HT : Hid (rv = true) := Lib.hid (by rw [HS.out, hy1]; rfl)
        subst hy1
        go_wp2_with fail
        go_ret
        exact ⟨by rw [HT.out]; rfl, HTW.out.bl⟩
      · have e1 : (y == 1) = false := by simp [hy1]
        have HT : Hid (rv = (y == room)) := Lib.hid (by rw [HS.out, HNO.out, e1]; simp)
        go_wp2_with fail
        refine (HHE.out _ HTW.out.bl).mono ?_
        rintro e w2 ⟨rfl, hb2⟩
        have HB2 := Lib.hid (bl_then HTW.out.bl hb2)
        clear hb2
        clear kt0 kt1 kt2 kt3 kt4 kt5 kt6 kt7 kt8 kt9 kt10 kt11 kt12 kt13 kt14
        clear b0 b1 b2 b3 b4 b5 b6 b7 b8 b9 bA bB bC
        clear HTWt HTWw
        go_wp2_with fail
        go_ret
        exact ⟨by rw [HT.out]; rfl, HB2.out⟩
end Go.Proofs.YtjggklfegcejhaaGreat
namespace Go.Proofs.YtjggklfegcejhaaGreat
open Go.RowKit Go.PlainAid
set_option linter.unusedVariables false
set_option linter.unusedSimpArgs false


theorem known_any (t : TbC) (sees : Int → Bool) (n : Nat) (k : TxC) : knownN t (seenTo sees n) k = true ↔ ∃ i : Nat, 1 ≤ i ∧ i < n ∧ sees (i : Int) = true ∧ hasX t (i : Int) k = true := by
  unfold knownN
  rw [List.any_eq_true]
  constructor
  · rintro ⟨y, hy, h⟩
    obtain ⟨h1, h2, h3⟩ := seen_mem hy
    obtain ⟨i, rfl⟩ : ∃ i : Nat, y = i := ⟨y.toNat, by omega⟩
    exact ⟨i, by omega, by omega, h3, h⟩
  · rintro ⟨i, h1, h2, h3, h4⟩
    refine ⟨(i : Int), ?_, h4⟩
    unfold seenTo
    rw [List.mem_filter]
    exact ⟨List.mem_map.2 ⟨i, List.mem_range.2 h2, rfl⟩, by rw [h3, Bool.and_true, decide_eq_true_eq]; omega⟩
set_option maxRecDepth 100000 in
set_option maxHeartbeats 8000000 in
theorem refNamed (x : TAd) (t : TbC) (q : Wv) (d : WdC) (s : TxC) (w : World) (ht : TabIs w x t) (hW : WOk w q d t.th.length) (hd : ∀ x, (kidsW d.ch d.nx t.th.length x).Nodup) (hky : KeyOk t) (hs : s.length ≤ maxLen) :
    Calls Tryz.prog 25 #[tabV x t, worldV q, .string ⟨s.toArray⟩] w fun e w' => e = .returned (.bool (knownN t (seenTo (seesN d t.th.length) t.th.length) (keyW s))) ∧ Below w.heap.size w w' := by
  have hnew := Two.new x t q w
  obtain ⟨W0, hW0⟩ : ∃ W0, (w.alloc (.cells (tabC x t).toArray 28)).alloc (.cells (worldC q).toArray 31) = W0 := ⟨_, rfl⟩
  rw [hW0] at hnew
  have hm := reads_few ht.th
  unfold maxLen at hm
  have HTB := Lib.hid (fun w' (hb : Below w.heap.size w w') => ht.below hb)
  have HSE := Lib.hid (fun y w' (hb : Below w.heap.size w w') => ref23Sees x t q d t.th.length y w' (hW.below hb) hd)
  have HHAS := Lib.hid (fun a (l : List TxC) c w' (hw : Wds w' a l) (hl : l.length ≤ maxLen) => refHas36 s a l c w' hw hl hs)
  have HKY := Lib.hid hky
  obtain ⟨sees, hsees⟩ : ∃ z, seesN d t.th.length = z := ⟨_, rfl⟩
  rw [hsees] at HSE ⊢
  obtain ⟨rv, hrv⟩ : ∃ r, knownN t (seenTo sees t.th.length) (keyW s) = r := ⟨_, rfl⟩
  have HRV : Hid (rv = true ↔ ∃ i : Nat, 1 ≤ i ∧ i < t.th.length ∧ sees (i : Int) = true ∧ hasX t (i : Int) (keyW s) = true) := Lib.hid (by rw [← hrv]; exact known_any t sees t.th.length (keyW s))
  rw [hrv]
  generalize keyW s = ks at *
  clear hW hsees hrv ht hky
  have HTW := Lib.hid (hnew)
  have HTWt := Lib.hid HTW.out.bt
  have HTWw := Lib.hid HTW.out.bw
  obtain ⟨kt0, kt1, kt2, kt3, kt4, kt5, kt6, kt7, kt8, kt9, kt10, kt11, kt12, kt13, kt14⟩ := tab15 (HTWt.out)
  obtain ⟨b0, b1, b2, b3, b4, b5, b6, b7, b8, b9, bA, bB, bC⟩ := wd13 (HTWw.out)
  clear hnew
  unfold tabV worldV at *
  go_enter Tryz.func25, Tryz.ntmps25
  unfold worldC at HSE hW0 ⊢
  unfold tabC at HSE hW0 ⊢
  go_wp2_with fail
  clear hW0
  clear kt0 kt1 kt2 kt3 kt4 kt5 kt6 kt7 kt8 kt9 kt10 kt11 kt12 kt13 kt14
  clear b0 b1 b2 b3 b4 b5 b6 b7 b8 b9 bA bB bC
  clear HTWt HTWw
  go_loopw [7] (fun iv wr => ∃ i : Nat, iv = .int .i64 i ∧ 1 ≤ i ∧ Hid (∀ j : Nat, 1 ≤ j → j < i → ¬ (sees (j : Int) = true ∧ hasX t (j : Int) ks = true)) ∧ Hid (Two x t q w wr)) (fun iv _ => t.th.length - (intOf iv).toNat)
  case atStart => exact ⟨1, rfl, Nat.le_refl _, Lib.hid (fun j h1 h2 => by omega), HTW⟩
  case round =>
    clear HTW
    obtain ⟨k, rfl, hk1, HI, HTR⟩ := hrel
    have hnew := HTR.out
    have HTW := Lib.hid (hnew)
    have HTWt := Lib.hid HTW.out.bt
    have HTWw := Lib.hid HTW.out.bw
    obtain ⟨kt0, kt1, kt2, kt3, kt4, kt5, kt6, kt7, kt8, kt9, kt10, kt11, kt12, kt13, kt14⟩ := tab15 (HTWt.out)
    obtain ⟨b0, b1, b2, b3, b4, b5, b6, b7, b8, b9, bA, bB, bC⟩ := wd13 (HTWw.out)
    clear hnew HTR
    by_cases hk : k < t.th.length
    · have hk2 : (k : Int) < (t.th.length : Int) := by omega
      have hk0 : (0 : Int) ≤ (k : Int) := by omega
      obtain ⟨sv, hsv⟩ : ∃ r, sees (k : Int) = r := ⟨_, rfl⟩
      have HS := Lib.hid (HSE.out (k : Int))
      rw [hsv] at HS
      have HSV := Lib.hid hsv
      clear hsv
      have HTWl := Lib.hid HTW.out.bl
      cases sv with
      | false =>
        go_wp2_with fail
        refine (HS.out _ HTW.out.bl).mono ?_
        rintro e w1 ⟨rfl, hb1⟩
        have hnew := HTW.out.below hb1
        clear kt0 kt1 kt2 kt3 kt4 kt5 kt6 kt7 kt8 kt9 kt10 kt11 kt12 kt13 kt14
        clear b0 b1 b2 b3 b4 b5 b6 b7 b8 b9 bA bB bC
        clear HTWt HTWw
        clear HTW
        have HTW := Lib.hid (hnew)
        have HTWt := Lib.hid HTW.out.bt
        have HTWw := Lib.hid HTW.out.bw
        obtain ⟨kt0, kt1, kt2, kt3, kt4, kt5, kt6, kt7, kt8, kt9, kt10, kt11, kt12, kt13, kt14⟩ := tab15 (HTWt.out)
        obtain ⟨b0, b1, b2, b3, b4, b5, b6, b7, b8, b9, bA, bB, bC⟩ := wd13 (HTWw.out)
        clear hnew
        clear hb1
        have HI2 : Hid (∀ j : Nat, 1 ≤ j → j < k + 1 → ¬ (sees (j : Int) = true ∧ hasX t (j : Int) ks = true)) := Lib.hid (fun j h1 h2 => by
          by_cases e : j = k
          · subst e; rw [HSV.out]; simp
          · exact HI.out j h1 (by omega))
        clear kt0 kt1 kt2 kt3 kt4 kt5 kt6 kt7 kt8 kt9 kt10 kt11 kt12 kt13 kt14
        clear b0 b1 b2 b3 b4 b5 b6 b7 b8 b9 bA bB bC
        clear HTWt HTWw
        go_wp2_with fail
        go_roundw
        case rel => exact ⟨k + 1, by go_num, by omega, HI2, HTW⟩
        case measure => simp [intOf]; omega
      | true =>
        go_wp2_with fail
        refine (HS.out _ HTW.out.bl).mono ?_
        rintro e w1 ⟨rfl, hb1⟩
        have hnew := HTW.out.below hb1
        clear kt0 kt1 kt2 kt3 kt4 kt5 kt6 kt7 kt8 kt9 kt10 kt11 kt12 kt13 kt14
        clear b0 b1 b2 b3 b4 b5 b6 b7 b8 b9 bA bB bC
        clear HTWt HTWw
        clear HTW
        have HTW := Lib.hid (hnew)
        have HTWt := Lib.hid HTW.out.bt
        have HTWw := Lib.hid HTW.out.bw
        obtain ⟨kt0, kt1, kt2, kt3, kt4, kt5, kt6, kt7, kt8, kt9, kt10, kt11, kt12, kt13, kt14⟩ := tab15 (HTWt.out)
        obtain ⟨b0, b1, b2, b3, b4, b5, b6, b7, b8, b9, bA, bB, bC⟩ := wd13 (HTWw.out)
        clear hnew
        clear hb1
        have htb := HTB.out _ HTW.out.bl
        obtain ⟨b, off, cap, hv, hcap, hblt, hcell⟩ := th_open htb.th (by omega)
        have hac : x.a8 = some ⟨b, off, none⟩ := by simp at hv; exact hv.1
        obtain ⟨r1, r2, r3, r4, hth, hrw⟩ := hcell k hk
        have e0 := hrw 0 (by decide)
        have e1 := hrw 1 (by decide)
        have e2 := hrw 2 (by decide)
        have e3 := hrw 3 (by decide)
        have e4 := hrw 4 (by decide)
        have e5 := hrw 5 (by decide)
        have e6 := hrw 6 (by decide)
        have e7 := hrw 7 (by decide)
        have e8 := hrw 8 (by decide)
        have HX : Hid (hasX t (k : Int) ks = hasT t.th[k] ks) := Lib.hid (hasX_at hk ks)
        obtain ⟨ky1, ky2⟩ := HKY.out _ (List.getElem_mem hk)
        generalize t.th[k] = y at *
        obtain ⟨a1, c1, rfl, _, hm1, hw1⟩ := reads_wds hth.wd
        obtain ⟨a2, c2, rfl, _, hm2, hw2⟩ := reads_wds hth.ad
        have H1 := Lib.hid (fun w' (hb : Below w1.heap.size w1 w') => HHAS.out a1 y.wd c1 w' (hw1.below hb) hm1)
        have H2 := Lib.hid (fun w' (hb : Below w1.heap.size w1 w') => HHAS.out a2 y.ad c2 w' (hw2.below hb) hm2)
        rw [ky1] at H1
        rw [ky2] at H2
        have HT0 : Hid (hasX t (k : Int) ks = (y.wd.contains ks || y.ad.contains ks)) := Lib.hid (by rw [HX.out]; rfl)
        obtain ⟨v1, hv1⟩ : ∃ r, y.wd.contains ks = r := ⟨_, rfl⟩
        obtain ⟨v2, hv2⟩ : ∃ r, y.ad.contains ks = r := ⟨_, rfl⟩
        rw [hv1] at H1
        rw [hv2] at H2
        rw [hv1, hv2] at HT0
        simp only [thRow, List.getElem?_cons_zero, List.getElem?_cons_succ, Nat.add_zero] at e0 e1 e2 e3 e4 e5 e6 e7 e8
        have HEC := Lib.hid hrw
        have HAC := Lib.hid hac
        have hblw : b < w1.heap.size := hblt
        rw [hac] at kt8
        clear hcell hv htb hth hw1 hw2 hv1 hv2 ky1 ky2 hac hrw HX
        cases v1 with
        | true =>
          have HRT : Hid (rv = true) := Lib.hid ((HRV.out).2 ⟨k, hk1, hk, HSV.out, by rw [HT0.out]; rfl⟩)
          go_wp2_with fail
          refine (H1.out _ (Below.refl _ _)).mono ?_
          rintro e w2 ⟨rfl, hb2⟩
          have HB2 := Lib.hid (bl_then HTW.out.bl hb2)
          clear hb2 e0 e1 e2 e3 e4 e5 e6 e7 e8
          clear kt0 kt1 kt2 kt3 kt4 kt5 kt6 kt7 kt8 kt9 kt10 kt11 kt12 kt13 kt14
          clear b0 b1 b2 b3 b4 b5 b6 b7 b8 b9 bA bB bC
          clear HTWt HTWw
          go_wp2_with fail
          go_ret
          exact ⟨by rw [HRT.out]; rfl, HB2.out⟩
        | false =>
          go_wp2_with fail
          refine (H1.out _ (Below.refl _ _)).mono ?_
          rintro e w2 ⟨rfl, hb2⟩
          have HBx := Lib.hid hb2
          have f7 := (hb2.cell (p := ⟨b, off + k * 9 + 7, none⟩) hblw).trans e7
          have hblw2 : b < w2.heap.size := Nat.lt_of_lt_of_le hblw hb2.size
          clear e0 e1 e2 e3 e4 e5 e6 e7 e8
          have hnew := HTW.out.below hb2
          clear kt0 kt1 kt2 kt3 kt4 kt5 kt6 kt7 kt8 kt9 kt10 kt11 kt12 kt13 kt14
          clear b0 b1 b2 b3 b4 b5 b6 b7 b8 b9 bA bB bC
          clear HTWt HTWw
          clear HTW
          have HTW := Lib.hid (hnew)
          have HTWt := Lib.hid HTW.out.bt
          have HTWw := Lib.hid HTW.out.bw
          obtain ⟨kt0, kt1, kt2, kt3, kt4, kt5, kt6, kt7, kt8, kt9, kt10, kt11, kt12, kt13, kt14⟩ := tab15 (HTWt.out)
          obtain ⟨b0, b1, b2, b3, b4, b5, b6, b7, b8, b9, bA, bB, bC⟩ := wd13 (HTWw.out)
          clear hnew
          clear hb2
          rw [HAC.out] at kt8
          cases v2 with
          | true =>
            have HRT : Hid (rv = true) := Lib.hid ((HRV.out).2 ⟨k, hk1, hk, HSV.out, by rw [HT0.out]; rfl⟩)
            go_wp2_with fail
            refine (H2.out _ HBx.out).mono ?_
            rintro e w3 ⟨rfl, hb3⟩
            have HB3 := Lib.hid (bl_then HTW.out.bl hb3)
            clear hb3 f7
            clear kt0 kt1 kt2 kt3 kt4 kt5 kt6 kt7 kt8 kt9 kt10 kt11 kt12 kt13 kt14
            clear b0 b1 b2 b3 b4 b5 b6 b7 b8 b9 bA bB bC
            clear HTWt HTWw
            go_wp2_with fail
            go_ret
            exact ⟨by rw [HRT.out]; rfl, HB3.out⟩
          | false =>
            go_wp2_with fail
            refine (H2.out _ HBx.out).mono ?_
            rintro e w3 ⟨rfl, hb3⟩
            clear f7
            have hnew := HTW.out.below hb3
            clear kt0 kt1 kt2 kt3 kt4 kt5 kt6 kt7 kt8 kt9 kt10 kt11 kt12 kt13 kt14
            clear b0 b1 b2 b3 b4 b5 b6 b7 b8 b9 bA bB bC
            clear HTWt HTWw
            clear HTW
            have HTW := Lib.hid (hnew)
            have HTWt := Lib.hid HTW.out.bt
            have HTWw := Lib.hid HTW.out.bw
            obtain ⟨kt0, kt1, kt2, kt3, kt4, kt5, kt6, kt7, kt8, kt9, kt10, kt11, kt12, kt13, kt14⟩ := tab15 (HTWt.out)
            obtain ⟨b0, b1, b2, b3, b4, b5, b6, b7, b8, b9, bA, bB, bC⟩ := wd13 (HTWw.out)
            clear hnew
            clear hb3
            have HI2 : Hid (∀ j : Nat, 1 ≤ j → j < k + 1 → ¬ (sees (j : Int) = true ∧ hasX t (j : Int) ks = true)) := Lib.hid (fun j h1 h2 => by
              by_cases e : j = k
              · subst e; rw [HT0.out]; simp
              · exact HI.out j h1 (by omega))
            clear kt0 kt1 kt2 kt3 kt4 kt5 kt6 kt7 kt8 kt9 kt10 kt11 kt12 kt13 kt14
            clear b0 b1 b2 b3 b4 b5 b6 b7 b8 b9 bA bB bC
            clear HTWt HTWw
            go_wp2_with fail
            go_roundw
            case rel => exact ⟨k + 1, by go_num, by omega, HI2, HTW⟩
            case measure => simp [intOf]; omega
    · have hk2 : ¬ (k : Int) < (t.th.length : Int) := by omega
      have HRF : Hid (rv = false) := Lib.hid (by
        rw [← Bool.not_eq_true]
        intro h
        obtain ⟨i, h1, h2, h3, h4⟩ := (HRV.out).1 h
        exact HI.out i h1 (by omega) ⟨h3, h4⟩)
      go_wp2_with fail
      go_ret
      exact ⟨by rw [HRF.out]; rfl, HTW.out.bl⟩
set_option maxRecDepth 100000 in
theorem refIn (a : Option Addr) (L : List Int) (c : Nat) (x : Int) (w : World) (h : Ints w (.slice a L.length c) L) :
    Calls Tryz.prog 35 #[.slice a L.length c, .int .i64 x] w fun e w' => e = .returned (.bool (L.contains x)) ∧ w = w' := by
  have HW := Lib.hid h
  have hn : L.length ≤ maxLen := by obtain ⟨_, _, _, h1, _⟩ := h; exact h1
  obtain ⟨m, hm⟩ : ∃ m, L.length = m := ⟨_, rfl⟩
  obtain ⟨r, hr⟩ : ∃ r, L.contains x = r := ⟨_, rfl⟩
  have HR := Lib.hid hr
  have HM := Lib.hid hm
  rw [hm] at hn HW ⊢
  rw [hr]
  unfold maxLen at hn
  clear h hm hr
  go_enter Tryz.func35, Tryz.ntmps35
  go_wp2
  go_loop [5] (fun iv => ∃ i : Nat, iv = .int .i64 i ∧ i ≤ m ∧ Hid (∀ j (h : j < L.length), j < i → L[j] ≠ x)) (fun iv => m - (intOf iv).toNat)
  case atStart => exact ⟨0, rfl, Nat.zero_le _, Lib.hid (fun j _ h => by omega)⟩
  case round =>
    obtain ⟨i, rfl, hi, HI⟩ := hrel
    by_cases hlt : i < m
    · have hil : i < L.length := by rw [HM.out]; exact hlt
      obtain ⟨b, o, rfl, hb, hcs⟩ := HW.out.at2 (by omega)
      have hci := hcs i hil
      have HMEM := Lib.hid (List.getElem_mem hil)
      obtain ⟨y, hy⟩ : ∃ y, L[i] = y := ⟨_, rfl⟩
      rw [hy] at hci HMEM
      have HX := Lib.hid hy
      clear hcs hy
      by_cases hyx : y = x
      · have e1 : (y == x) = true := by simp [hyx]
        have HT : Hid (r = true) := Lib.hid (by rw [← HR.out, List.contains_iff_mem, ← hyx]; exact HMEM.out)
        go_wp2_with fail
        go_ret
        exact ⟨by rw [HT.out]; rfl, rfl⟩
      · have e1 : (y == x) = false := by simp [hyx]
        have HI2 : Hid (∀ j (h : j < L.length), j < i + 1 → L[j] ≠ x) := Lib.hid (fun j h hj => by
          by_cases e : j = i
          · subst e; rw [HX.out]; exact hyx
          · exact HI.out j h (by omega))
        go_wp2_with fail
        go_round
        case rel => exact ⟨i + 1, by go_num, by omega, HI2⟩
        case measure => simp [intOf]; omega
    · have HF : Hid (r = false) := Lib.hid (by
        rw [← HR.out, ← Bool.not_eq_true, List.contains_iff_mem]
        intro hm
        obtain ⟨j, hj, e⟩ := List.getElem_of_mem hm
        exact HI.out j hj (by rw [HM.out] at hj; omega) e)
      go_wp2_with fail
      go_ret
      exact ⟨by rw [HF.out]; rfl, rfl⟩
end Go.Proofs.YtjggklfegcejhaaGreat
namespace Go.Proofs.YtjggklfegcejhaaGreat
set_option linter.unusedVariables false
set_option linter.unusedSimpArgs false

theorem vis_is {d : WdC} {n : Nat} {y : Int} (h : y ∈ visN d n) : isW n y = true := by
  unfold visN at h
  split at h
  · exact reach_is _ _ _ _ _ (List.mem_filter.1 h).1
  · exact reach_is _ _ _ _ _ h
theorem sees_is {d : WdC} {n : Nat} {y : Int} (hn : 2 ≤ n) (h : seesN d n y = true) : isW n y = true := by
  have h1 : isW n 1 = true := by unfold isW; rw [decide_eq_true_eq]; omega
  unfold seesN at h
  rw [Bool.or_eq_true, Bool.or_eq_true, beq_iff_eq, beq_iff_eq, List.contains_iff_mem] at h
  rcases h with (rfl | rfl) | h
  · exact h1
  · exact top_is h1 (by omega)
  · exact vis_is h
theorem sit_eq {d : WdC} {n : Nat} (y : Int) (hn : 2 ≤ n) : (isW n y && seesN d n y) = seesN d n y := by
  cases h : seesN d n y with
  | false => simp
  | true => rw [sees_is hn h]; rfl
theorem vis_nodup {d : WdC} {n : Nat} (h : NestW d.pa d.ch d.nx n) (hn : 1 ≤ n) (hd : ∀ x, (kidsW d.ch d.nx n x).Nodup) : (visN d n).Nodup := by
  unfold visN
  split
  · exact (reach_nodup h hn hd _ _ _ _).filter _
  · exact reach_nodup h hn hd _ _ _ _
theorem res_mem {F : List Int} {u v : Nat} {x : Int} (h : resN F u = (x, v, 0)) : F = [x] ∧ v = u := by
  unfold resN at h
  split at h
  · simp at h
  · simp only [Prod.mk.injEq, and_true] at h
    exact ⟨by rw [h.1], h.2.symm⟩
  · simp at h
theorem one_sees {t : TbC} {sees : Int → Bool} {n : Nat} {it x : Int} {u : Nat} {ks : List TxC} (h : oneN t (seenTo sees n) (isW n it && sees it) it ks = (x, u, 0)) : sees x = true := by
  unfold oneN at h
  split at h
  · simp at h
  · split at h
    · split at h
      · rename_i hs
        simp only [Prod.mk.injEq, and_true] at h
        rw [Bool.and_eq_true] at hs
        rw [← h.1]; exact hs.2
      · simp at h
    · simp only at h
      split at h
      · simp at h
      · have h1 := (res_mem h).1
        have h2 := List.mem_singleton.2 (rfl : x = x)
        rw [← h1] at h2
        exact (seen_mem (List.mem_filter.1 h2).1).2.2
theorem add_mem {l : List Int} {x y : Int} (h : y ∈ addN l x) : y ∈ l ∨ y = x := by
  unfold addN at h
  split at h
  · exact .inl h
  · rcases List.mem_append.1 h with h | h
    · exact .inl h
    · exact .inr (List.mem_singleton.1 h)
theorem add_ne (l : List Int) (x : Int) : addN l x ≠ [] := by
  unfold addN
  split
  · rename_i h
    intro e
    rw [e] at h; simp at h
  · simp
theorem add_nodup {l : List Int} {x : Int} (h : l.Nodup) : (addN l x).Nodup := by
  unfold addN
  split
  · exact h
  · rename_i hx
    have hx : x ∉ l := fun hm => hx (List.contains_iff_mem.2 hm)
    rw [List.nodup_append]
    refine ⟨h, List.nodup_cons.2 ⟨by simp, List.nodup_nil⟩, fun a ha b hb => ?_⟩
    rw [List.mem_singleton.1 hb]
    exact fun e => hx (by rw [← e]; exact ha)
/-- What phrases are to be. -/
structure PhOk (S : Int → Prop) (p : PhC) : Prop where
  mem : ∀ y ∈ p.th, S y
  nd : p.th.Nodup
  er : p.er = 0 ↔ p.th ≠ []
theorem PhOk.bad {S : Int → Prop} (u : Nat) {e : Int} (h : e ≠ 0) : PhOk S ⟨[], u, e⟩ := ⟨(fun y hy => by cases hy), List.nodup_nil, ⟨fun h0 => absurd h0 h, fun h0 => absurd rfl h0⟩⟩
theorem PhOk.good {S : Int → Prop} {l : List Int} (u : Nat) (h : ∀ y ∈ l, S y) (hd : l.Nodup) (h0 : l ≠ []) : PhOk S ⟨l, u, 0⟩ := ⟨h, hd, ⟨fun _ => h0, fun _ => rfl⟩⟩
theorem item_ok {one : List TxC → Int × Nat × Int} {S : Int → Prop} (ks : List TxC) (h1 : ∀ x u, one ks = (x, u, 0) → S x) : PhOk S (itemN (one ks)) := by
  obtain ⟨⟨x, u, e⟩, hr⟩ : ∃ r, one ks = r := ⟨_, rfl⟩
  rw [hr]
  by_cases he : e = 0
  · subst he
    exact PhOk.good u (fun y hy => by rw [List.mem_singleton.1 hy]; exact h1 x u hr) (List.nodup_cons.2 ⟨by simp, List.nodup_nil⟩) (by simp)
  · have e1 : itemN (x, u, e) = ⟨[], u, e⟩ := by unfold itemN; simp [he]
    rw [e1]; exact PhOk.bad u he
theorem list_ok {one : List TxC → Int × Nat × Int} {S : Int → Prop} (h1 : ∀ ks x u, one ks = (x, u, 0) → S x) (ks : List TxC) : ∀ (f u : Nat) (l : List Int), (∀ y ∈ l, S y) → l.Nodup → (l ≠ [] ∨ 0 < f) → PhOk S (listN one ks f u l)
  | 0, u, l, hl, hd, h0 => PhOk.good u hl hd (h0.resolve_right (by omega))
  | f + 1, u, l, hl, hd, _ => by
    obtain ⟨⟨x, v, e⟩, hr⟩ : ∃ r, one (ks.drop u) = r := ⟨_, rfl⟩
    unfold listN
    simp only [hr]
    by_cases he : e = 0
    · subst he
      have hx := h1 _ _ _ hr
      have hm : ∀ y ∈ addN l x, S y := fun y hy => (add_mem hy).elim (hl y) (fun e => by rw [e]; exact hx)
      rw [if_pos rfl]
      split
      · exact list_ok h1 ks f _ _ hm (add_nodup hd) (.inl (add_ne _ _))
      · exact PhOk.good _ hm (add_nodup hd) (add_ne _ _)
    · rw [if_neg he]
      exact PhOk.bad _ he
theorem left_ok {vis car but : List Int} {S : Int → Prop} (hv : ∀ y ∈ vis, S y) (hc : ∀ y ∈ car, S y) (nv : vis.Nodup) (nc : car.Nodup) (u : Nat) : PhOk S (if leftN vis car but = [] then ⟨[], u, 11⟩ else ⟨leftN vis car but, u, 0⟩) := by
  split
  · exact PhOk.bad u (by decide)
  · rename_i h0
    refine PhOk.good u (fun y hy => ?_) ?_ h0
    · unfold leftN at hy
      have h2 := (List.mem_filter.1 hy).1
      unfold allN at h2
      split at h2
      · exact hc y h2
      · exact hv y (List.mem_filter.1 h2).1
    · unfold leftN allN
      refine List.Pairwise.filter _ ?_
      split
      · exact nc
      · exact nv.filter _
theorem many_ok {one : List TxC → Int × Nat × Int} {S : Int → Prop} (h1 : ∀ ks x u, one ks = (x, u, 0) → S x) {vis car : List Int} (hv : ∀ y ∈ vis, S y) (hc : ∀ y ∈ car, S y) (nv : vis.Nodup) (nc : car.Nodup) (ks : List TxC) : PhOk S (manyN one vis car ks) := by
  have lst : ∀ l : List TxC, PhOk S (listN one l (l.length + 1) 0 []) := fun l => list_ok h1 l _ _ _ (fun y hy => by cases hy) List.nodup_nil (.inr (by omega))
  unfold manyN
  split
  · exact lst _
  · split
    · split
      · exact left_ok hv hc nv nc _
      · split
        · simp only
          split
          · exact left_ok hv hc nv nc _
          · rename_i he
            exact PhOk.bad _ he
        · exact left_ok hv hc nv nc _
    · exact lst _
end Go.Proofs.YtjggklfegcejhaaGreat
