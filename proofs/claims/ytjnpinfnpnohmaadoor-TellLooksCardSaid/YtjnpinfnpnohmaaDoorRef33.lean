/- Contracts of clewref24's Status and Look.; Contract of clewref24.Look. -/
import Derived.Test.YtjnpinfnpnohmaaDoorRef29
import Derived.Test.YtjnpinfnpnohmaaDoorRef32
import Derived.Test.YtjnpinfnpnohmaaDoorTell5
namespace Go.Proofs.YtjnpinfnpnohmaaDoor
open Go.RowKit Go.PlainAid Go.Shelf Go.Lib
set_option linter.unusedVariables false
set_option linter.unusedSimpArgs false

set_option maxRecDepth 100000 in
set_option maxHeartbeats 8000000 in
theorem refStatus (x : TAd) (t : TbC) (q : Wv) (d : WdC) (n : Nat) (w : World) (ht : TabIs w x t) (hW : WOk w q d n) (hT : TW t n) (hd : ∀ x, (kidsW d.ch d.nx n x).Nodup) :
    Calls Tryd.prog 20 #[tabV x t, worldV q] w fun e w' => e = .returned (mkS (statusT t q d n)) ∧ Below w.heap.size w w' := by
  have hnew := Two.new x t q w
  obtain ⟨W0, hW0⟩ : ∃ W0, (w.alloc (.cells (tabC x t).toArray 28)).alloc (.cells (worldC q).toArray 34) = W0 := ⟨_, rfl⟩
  rw [hW0] at hnew
  have HLIT := Lib.hid (fun w' (hb : Below w.heap.size w w') => refLit x t q d n w' (hW.below hb) hd)
  have HH := Lib.hid (fun w' (hb : Below w.heap.size w w') => ref23Here q d n w' (hW.below hb))
  have HT := Lib.hid (fun w' (hb : Below w.heap.size w w') => refTitleT x t (topOf d.pa n 1) w' (ht.below hb))
  have r1 := wf_bd hW.is.i1
  have r2 := wf_bd ht.i3
  have r3 := wf_bd hW.is.i2
  have H1 := Lib.hid (fun w' (hb : Below w.heap.size w w') => (refNumText q.sc w' r1.1 r1.2).mono fun e w'' h => (⟨h.1, by rw [← h.2]; exact Below.refl _ _⟩ : e = .returned (.string (mk (itoa q.sc))) ∧ Below w'.heap.size w' w''))
  have H2 := Lib.hid (fun w' (hb : Below w.heap.size w w') => (refNumText t.mx w' r2.1 r2.2).mono fun e w'' h => (⟨h.1, by rw [← h.2]; exact Below.refl _ _⟩ : e = .returned (.string (mk (itoa t.mx))) ∧ Below w'.heap.size w' w''))
  have H3 := Lib.hid (fun w' (hb : Below w.heap.size w w') => (refNumText q.tu w' r3.1 r3.2).mono fun e w'' h => (⟨h.1, by rw [← h.2]; exact Below.refl _ _⟩ : e = .returned (.string (mk (itoa q.tu))) ∧ Below w'.heap.size w' w''))
  have z1 := itoa_shortT r1.1 r1.2
  have z2 := itoa_shortT r2.1 r2.2
  have z3 := itoa_shortT r3.1 r3.2
  have z0 := title_le hT.tx (topOf d.pa n 1)
  unfold statusT
  generalize topOf d.pa n 1 = room at *
  generalize titleT t room = ti at *
  generalize litB d n = lit at *
  generalize itoa q.sc = s1 at *
  generalize itoa t.mx = s2 at *
  generalize itoa q.tu = s3 at *
  clear ht hW hT
  have HTW := Lib.hid (hnew)
  have HTWt := Lib.hid HTW.out.bt
  have HTWw := Lib.hid HTW.out.bw
  have kt0 := HTWt.out.cell 0
  have kt1 := HTWt.out.cell 1
  have kt2 := HTWt.out.cell 2
  have kt3 := HTWt.out.cell 3
  have kt4 := HTWt.out.cell 4
  have kt5 := HTWt.out.cell 5
  have kt6 := HTWt.out.cell 6
  have kt7 := HTWt.out.cell 7
  have kt8 := HTWt.out.cell 8
  have kt9 := HTWt.out.cell 9
  have kt10 := HTWt.out.cell 10
  have kt11 := HTWt.out.cell 11
  have kt12 := HTWt.out.cell 12
  have kt13 := HTWt.out.cell 13
  have kt14 := HTWt.out.cell 14
  simp only [tabC, List.getElem?_cons_zero, List.getElem?_cons_succ] at kt0 kt1 kt2 kt3 kt4 kt5 kt6 kt7 kt8 kt9 kt10 kt11 kt12 kt13 kt14
  have b0 := HTWw.out.cell 0
  have b1 := HTWw.out.cell 1
  have b2 := HTWw.out.cell 2
  have b3 := HTWw.out.cell 3
  have b4 := HTWw.out.cell 4
  have b5 := HTWw.out.cell 5
  have b6 := HTWw.out.cell 6
  have b7 := HTWw.out.cell 7
  have b8 := HTWw.out.cell 8
  have b9 := HTWw.out.cell 9
  have bA := HTWw.out.cell 10
  have bB := HTWw.out.cell 11
  have bC := HTWw.out.cell 12
  simp only [worldC, List.getElem?_cons_zero, List.getElem?_cons_succ] at b0 b1 b2 b3 b4 b5 b6 b7 b8 b9 bA bB bC
  clear hnew
  unfold worldV tabV at *
  go_enter Tryd.func20, Tryd.ntmps20
  unfold worldC at HLIT HH hW0 ⊢
  unfold tabC at HLIT HT hW0 ⊢
  unfold mkS at HT ⊢
  unfold mk at H1 H2 H3
  go_wp2_with fail
  clear hW0
  refine (HLIT.out _ HTW.out.bl).mono ?_
  rintro e w1 ⟨rfl, hb1⟩
  have hnew := HTW.out.below hb1
  clear hb1
  clear kt0 kt1 kt2 kt3 kt4 kt5 kt6 kt7 kt8 kt9 kt10 kt11 kt12 kt13 kt14
  clear b0 b1 b2 b3 b4 b5 b6 b7 b8 b9 bA bB bC
  clear HTWt HTWw
  clear HTW
  have HTW := Lib.hid (hnew)
  have HTWt := Lib.hid HTW.out.bt
  have HTWw := Lib.hid HTW.out.bw
  have kt0 := HTWt.out.cell 0
  have kt1 := HTWt.out.cell 1
  have kt2 := HTWt.out.cell 2
  have kt3 := HTWt.out.cell 3
  have kt4 := HTWt.out.cell 4
  have kt5 := HTWt.out.cell 5
  have kt6 := HTWt.out.cell 6
  have kt7 := HTWt.out.cell 7
  have kt8 := HTWt.out.cell 8
  have kt9 := HTWt.out.cell 9
  have kt10 := HTWt.out.cell 10
  have kt11 := HTWt.out.cell 11
  have kt12 := HTWt.out.cell 12
  have kt13 := HTWt.out.cell 13
  have kt14 := HTWt.out.cell 14
  simp only [tabC, List.getElem?_cons_zero, List.getElem?_cons_succ] at kt0 kt1 kt2 kt3 kt4 kt5 kt6 kt7 kt8 kt9 kt10 kt11 kt12 kt13 kt14
  have b0 := HTWw.out.cell 0
  have b1 := HTWw.out.cell 1
  have b2 := HTWw.out.cell 2
  have b3 := HTWw.out.cell 3
  have b4 := HTWw.out.cell 4
  have b5 := HTWw.out.cell 5
  have b6 := HTWw.out.cell 6
  have b7 := HTWw.out.cell 7
  have b8 := HTWw.out.cell 8
  have b9 := HTWw.out.cell 9
  have bA := HTWw.out.cell 10
  have bB := HTWw.out.cell 11
  have bC := HTWw.out.cell 12
  simp only [worldC, List.getElem?_cons_zero, List.getElem?_cons_succ] at b0 b1 b2 b3 b4 b5 b6 b7 b8 b9 bA bB bC
  clear hnew
  have hlt0 : w.heap.size < w1.heap.size := HTW.out.bt.lt
  have hlt1 : w.heap.size + 1 < w1.heap.size := HTW.out.bw.lt
  cases lit with
  | false =>
    have hs0 : (⟨#[68, 97, 114, 107, 110, 101, 115, 115]⟩ : ByteArray) ++ ⟨#[44, 32, 115, 99, 111, 114, 101, 32]⟩ = ⟨(darknessL ++ scoreL).toArray⟩ := by
      rw [show (⟨#[68, 97, 114, 107, 110, 101, 115, 115]⟩ : ByteArray) = ⟨darknessL.toArray⟩ from rfl, show (⟨#[44, 32, 115, 99, 111, 114, 101, 32]⟩ : ByteArray) = ⟨scoreL.toArray⟩ from rfl, ba_app]
    have hdl : (darknessL ++ scoreL).length ≤ 20 := by decide
    have HDK : Hid (darknessL ++ scoreL ++ s1 ++ ofL ++ s2 ++ turnL ++ s3 = (if false = true then ti else darknessL) ++ scoreL ++ s1 ++ ofL ++ s2 ++ turnL ++ s3) := Lib.hid rfl
    generalize darknessL ++ scoreL = dk at *
    go_wp2_with fail
    refine region_text (fun w' => Below w1.heap.size w1 w') (by kernel_rfl) (by kernel_rfl) ((Below.refl _ _).drew) (fun KK hKK => ?_)
    intro OPS
    try simp only [List.append]
    repeat (first
      | (refine' inText_val ?_ ?_ ?_ ?_
         rotate_left 2
         · rfl
         · (intro w' hS; obtain ⟨hcc, hff⟩ := bcell hS; go_simp; first | with_reducible rfl | (rw [if_neg (by omega)]; done) | (rw [if_neg (by omega)]; with_reducible rfl) | skip)
         · (simp only [Act.put, List.setIfInBounds_toArray, List.set_cons_zero, List.set_cons_succ]; with_reducible rfl))
      | (refine' inText_call ?_ ?_ ?_ ?_ ?_
         rotate_left 4
         · rfl
         · (intro w' hS; obtain ⟨hcc, hff⟩ := bcell hS; go_simp; exact ⟨rfl, rfl⟩)
         · (intro w' hS
            first
              | ((with_reducible refine (HH.out w' (bl_then HTW.out.bl hS)).mono ?_); exact fun e w'' h => ⟨h.1, bl_then hS h.2⟩)
              | ((with_reducible refine (HT.out w' (bl_then HTW.out.bl hS)).mono ?_); exact fun e w'' h => ⟨h.1, bl_then hS h.2⟩)
              | ((with_reducible refine (H1.out w' (bl_then HTW.out.bl hS)).mono ?_); exact fun e w'' h => ⟨h.1, bl_then hS h.2⟩)
              | ((with_reducible refine (H2.out w' (bl_then HTW.out.bl hS)).mono ?_); exact fun e w'' h => ⟨h.1, bl_then hS h.2⟩)
              | ((with_reducible refine (H3.out w' (bl_then HTW.out.bl hS)).mono ?_); exact fun e w'' h => ⟨h.1, bl_then hS h.2⟩))
         · (simp only [Act.put, List.setIfInBounds_toArray, List.set_cons_zero, List.set_cons_succ]; with_reducible rfl)))
    refine inText_nil (hKK.out _ (fun w' hS => ?_))
    have HB9 := Lib.hid (bl_then HTW.out.bl hS)
    clear hS hKK
    clear kt0 kt1 kt2 kt3 kt4 kt5 kt6 kt7 kt8 kt9 kt10 kt11 kt12 kt13 kt14
    clear b0 b1 b2 b3 b4 b5 b6 b7 b8 b9 bA bB bC
    clear HTWt HTWw
    go_wp2
    go_ret
    exact ⟨congrArg (fun b => Ending.returned (.string b)) ((cat6 dk s1 ofL s2 turnL s3).trans (by rw [HDK.out]; simp)), HB9.out⟩
  | true =>
    go_wp2_with fail
    refine region_text (fun w' => Below w1.heap.size w1 w') (by kernel_rfl) (by kernel_rfl) ((Below.refl _ _).drew) (fun KK hKK => ?_)
    intro OPS
    try simp only [List.append]
    repeat (first
      | (refine' inText_val ?_ ?_ ?_ ?_
         rotate_left 2
         · rfl
         · (intro w' hS; obtain ⟨hcc, hff⟩ := bcell hS; go_simp; first | with_reducible rfl | (rw [if_neg (by omega)]; done) | (rw [if_neg (by omega)]; with_reducible rfl) | skip)
         · (simp only [Act.put, List.setIfInBounds_toArray, List.set_cons_zero, List.set_cons_succ]; with_reducible rfl))
      | (refine' inText_call ?_ ?_ ?_ ?_ ?_
         rotate_left 4
         · rfl
         · (intro w' hS; obtain ⟨hcc, hff⟩ := bcell hS; go_simp; exact ⟨rfl, rfl⟩)
         · (intro w' hS
            first
              | ((with_reducible refine (HH.out w' (bl_then HTW.out.bl hS)).mono ?_); exact fun e w'' h => ⟨h.1, bl_then hS h.2⟩)
              | ((with_reducible refine (HT.out w' (bl_then HTW.out.bl hS)).mono ?_); exact fun e w'' h => ⟨h.1, bl_then hS h.2⟩)
              | ((with_reducible refine (H1.out w' (bl_then HTW.out.bl hS)).mono ?_); exact fun e w'' h => ⟨h.1, bl_then hS h.2⟩)
              | ((with_reducible refine (H2.out w' (bl_then HTW.out.bl hS)).mono ?_); exact fun e w'' h => ⟨h.1, bl_then hS h.2⟩)
              | ((with_reducible refine (H3.out w' (bl_then HTW.out.bl hS)).mono ?_); exact fun e w'' h => ⟨h.1, bl_then hS h.2⟩))
         · (simp only [Act.put, List.setIfInBounds_toArray, List.set_cons_zero, List.set_cons_succ]; with_reducible rfl)))
    refine inText_nil (hKK.out _ (fun w5 hS => ?_))
    have hnew := HTW.out.below hS
    clear hS hKK
    clear kt0 kt1 kt2 kt3 kt4 kt5 kt6 kt7 kt8 kt9 kt10 kt11 kt12 kt13 kt14
    clear b0 b1 b2 b3 b4 b5 b6 b7 b8 b9 bA bB bC
    clear HTWt HTWw
    clear HTW
    have HTW := Lib.hid (hnew)
    have HTWt := Lib.hid HTW.out.bt
    have HTWw := Lib.hid HTW.out.bw
    have kt0 := HTWt.out.cell 0
    have kt1 := HTWt.out.cell 1
    have kt2 := HTWt.out.cell 2
    have kt3 := HTWt.out.cell 3
    have kt4 := HTWt.out.cell 4
    have kt5 := HTWt.out.cell 5
    have kt6 := HTWt.out.cell 6
    have kt7 := HTWt.out.cell 7
    have kt8 := HTWt.out.cell 8
    have kt9 := HTWt.out.cell 9
    have kt10 := HTWt.out.cell 10
    have kt11 := HTWt.out.cell 11
    have kt12 := HTWt.out.cell 12
    have kt13 := HTWt.out.cell 13
    have kt14 := HTWt.out.cell 14
    simp only [tabC, List.getElem?_cons_zero, List.getElem?_cons_succ] at kt0 kt1 kt2 kt3 kt4 kt5 kt6 kt7 kt8 kt9 kt10 kt11 kt12 kt13 kt14
    have b0 := HTWw.out.cell 0
    have b1 := HTWw.out.cell 1
    have b2 := HTWw.out.cell 2
    have b3 := HTWw.out.cell 3
    have b4 := HTWw.out.cell 4
    have b5 := HTWw.out.cell 5
    have b6 := HTWw.out.cell 6
    have b7 := HTWw.out.cell 7
    have b8 := HTWw.out.cell 8
    have b9 := HTWw.out.cell 9
    have bA := HTWw.out.cell 10
    have bB := HTWw.out.cell 11
    have bC := HTWw.out.cell 12
    simp only [worldC, List.getElem?_cons_zero, List.getElem?_cons_succ] at b0 b1 b2 b3 b4 b5 b6 b7 b8 b9 bA bB bC
    have hlt0 : w.heap.size < w5.heap.size := HTW.out.bt.lt
    have hlt1 : w.heap.size + 1 < w5.heap.size := HTW.out.bw.lt
    clear hnew
    go_wp2_with fail
    refine region_text (fun w' => Below w5.heap.size w5 w') (by kernel_rfl) (by kernel_rfl) ((Below.refl _ _).drew) (fun KK hKK => ?_)
    intro OPS
    try simp only [List.append]
    repeat (first
      | (refine' inText_val ?_ ?_ ?_ ?_
         rotate_left 2
         · rfl
         · (intro w' hS; obtain ⟨hcc, hff⟩ := bcell hS; go_simp; first | with_reducible rfl | (rw [if_neg (by omega)]; done) | (rw [if_neg (by omega)]; with_reducible rfl) | skip)
         · (simp only [Act.put, List.setIfInBounds_toArray, List.set_cons_zero, List.set_cons_succ]; with_reducible rfl))
      | (refine' inText_call ?_ ?_ ?_ ?_ ?_
         rotate_left 4
         · rfl
         · (intro w' hS; obtain ⟨hcc, hff⟩ := bcell hS; go_simp; exact ⟨rfl, rfl⟩)
         · (intro w' hS
            first
              | ((with_reducible refine (HH.out w' (bl_then HTW.out.bl hS)).mono ?_); exact fun e w'' h => ⟨h.1, bl_then hS h.2⟩)
              | ((with_reducible refine (HT.out w' (bl_then HTW.out.bl hS)).mono ?_); exact fun e w'' h => ⟨h.1, bl_then hS h.2⟩)
              | ((with_reducible refine (H1.out w' (bl_then HTW.out.bl hS)).mono ?_); exact fun e w'' h => ⟨h.1, bl_then hS h.2⟩)
              | ((with_reducible refine (H2.out w' (bl_then HTW.out.bl hS)).mono ?_); exact fun e w'' h => ⟨h.1, bl_then hS h.2⟩)
              | ((with_reducible refine (H3.out w' (bl_then HTW.out.bl hS)).mono ?_); exact fun e w'' h => ⟨h.1, bl_then hS h.2⟩))
         · (simp only [Act.put, List.setIfInBounds_toArray, List.set_cons_zero, List.set_cons_succ]; with_reducible rfl)))
    refine inText_nil (hKK.out _ (fun w6 hS => ?_))
    have HB9 := Lib.hid (bl_then HTW.out.bl hS)
    clear hS hKK
    clear kt0 kt1 kt2 kt3 kt4 kt5 kt6 kt7 kt8 kt9 kt10 kt11 kt12 kt13 kt14
    clear b0 b1 b2 b3 b4 b5 b6 b7 b8 b9 bA bB bC
    clear HTWt HTWw
    go_wp2
    go_ret
    exact ⟨congrArg (fun b => Ending.returned (.string b)) ((cat7 ti scoreL s1 ofL s2 turnL s3).trans (by simp)), HB9.out⟩
end Go.Proofs.YtjnpinfnpnohmaaDoor
namespace Go.Proofs.YtjnpinfnpnohmaaDoor
open Go.RowKit Go.PlainAid
set_option linter.unusedVariables false
set_option linter.unusedSimpArgs false

set_option maxRecDepth 100000 in
set_option maxHeartbeats 8000000 in
theorem refLook (x : TAd) (t : TbC) (q : Wv) (d : WdC) (n : Nat) (w : World) (ht : TabIs w x t) (hW : WOk w q d n) (hT : TW t n) (hd : ∀ x, (kidsW d.ch d.nx n x).Nodup) :
    Calls Tryd.prog 18 #[tabV x t, worldV q] w fun e w' => e = .returned (mkS (lookT t d n)) ∧ Below w.heap.size w w' := by
  have hnew := Two.new x t q w
  obtain ⟨W0, hW0⟩ : ∃ W0, (w.alloc (.cells (tabC x t).toArray 28)).alloc (.cells (worldC q).toArray 34) = W0 := ⟨_, rfl⟩
  rw [hW0] at hnew
  have HLIT := Lib.hid (fun w' (hb : Below w.heap.size w w') => refLit x t q d n w' (hW.below hb) hd)
  have HHERE := Lib.hid (fun w' (hb : Below w.heap.size w w') => ref23Here q d n w' (hW.below hb))
  have HTI := Lib.hid (fun i w' (hb : Below w.heap.size w w') => refTitleT x t i w' (ht.below hb))
  have HTX := Lib.hid (fun i w' (hb : Below w.heap.size w w') => refTextT x t i w' (ht.below hb))
  have HLD := Lib.hid (fun y w' (hb : Below w.heap.size w w') => ref24Listed q d y n w' (hW.below hb))
  have HLS := Lib.hid (fun y w' (hb : Below w.heap.size w w') => refList x t q d n y w' (ht.below hb) (hW.below hb) hT.tx)
  have his := isW_lt (top_is (pa := d.pa) (n := n) (x := 1) (by rw [isW_spec]; have := hT.two; omega) hW.pos)
  have hfew := hW.few
  unfold lookT
  generalize topOf d.pa n 1 = room at *
  obtain ⟨k, rfl⟩ : ∃ k : Nat, room = k := ⟨room.toNat, by omega⟩
  have hk : k < t.th.length := by rw [hT.th]; omega
  have hkn : k < n := by omega
  obtain ⟨b, off, cap, hv, hcap, hblt, hcell⟩ := th_open ht.th (by omega)
  have hac : x.a8 = some ⟨b, off, none⟩ := by simp at hv; exact hv.1
  obtain ⟨r1, r2, r3, r4, hth, hrow⟩ := hcell k hk
  have e0 := hrow 1 (by decide)
  simp only [thRow, List.getElem?_cons_zero, List.getElem?_cons_succ] at e0
  have HE := Lib.hid (fun wr (hb : Below w.heap.size w wr) => (hb.cell (p := ⟨b, off + k * 9 + 1, none⟩) hblt).trans e0)
  have HLN := Lib.hid (linesT_eq (d := d) (n := n) (List.getElem?_eq_getElem hk) rfl rfl rfl rfl)
  have HTI := Lib.hid (HTI.out (k : Int))
  have HTX := Lib.hid (HTX.out (t.th[k]).tx)
  have HLD := Lib.hid (HLD.out (k : Int))
  have HLS := Lib.hid (HLS.out (k : Int))
  have hz1 := title_le hT.tx (k : Int)
  have hz2 := text_le hT.tx (t.th[k]).tx
  have hz3 := row_le (ls := titlesL t d.fl (kidsW d.ch d.nx n (k : Int))) (titles_le hT.tx)
  have hz4 := Nat.le_trans (titles_len (t := t) (fl := d.fl) (l := kidsW d.ch d.nx n (k : Int))) (Nat.le_trans (kids_len d.ch d.nx n (k : Int)) hfew)
  have HLS2 : Hid (titlesL t d.fl (kidsW d.ch d.nx n (k : Int)) = ((kidsW d.ch d.nx n (k : Int)).filter (shownB d.fl n)).map (titleT t)) := Lib.hid (by rw [shown_eq]; rfl)
  generalize (kidsW d.ch d.nx n (k : Int)).filter (shownB d.fl n) = LL at *
  have HLL : Hid (LL.length = (titlesL t d.fl (kidsW d.ch d.nx n (k : Int))).length) := Lib.hid (by rw [HLS2.out, List.length_map])
  clear HLS2
  generalize linesT t d n (k : Int) = lns at *
  generalize titleT t (k : Int) = ti at *
  generalize textT t (t.th[k]).tx = tt at *
  generalize (t.th[k]).tx = tx at *
  generalize titlesL t d.fl (kidsW d.ch d.nx n (k : Int)) = ls at *
  generalize rowT ls = rl at *
  generalize litB d n = lit at *
  have hzr : rl.length ≤ 1030024 := by omega
  clear hz3 hz4
  have hq0 : (0 : Int) ≤ (k : Int) := by omega
  have hq1 : (k : Int) < (t.th.length : Int) := by omega
  have hm := reads_few ht.th
  unfold maxLen at hm
  clear hv hcell hth hrow e0 his
  clear ht hW hT
  obtain ⟨x4, x6, x7, x8, x9, x10, x11, x12, x13, x14, c4, c6, c7, c8, c9, c10, c11, c12, c13, c14⟩ := x
  simp only at hac
  subst hac
  have HTW := Lib.hid (hnew)
  have HTWt := Lib.hid HTW.out.bt
  have HTWw := Lib.hid HTW.out.bw
  have kt0 := HTWt.out.cell 0
  have kt1 := HTWt.out.cell 1
  have kt2 := HTWt.out.cell 2
  have kt3 := HTWt.out.cell 3
  have kt4 := HTWt.out.cell 4
  have kt5 := HTWt.out.cell 5
  have kt6 := HTWt.out.cell 6
  have kt7 := HTWt.out.cell 7
  have kt8 := HTWt.out.cell 8
  have kt9 := HTWt.out.cell 9
  have kt10 := HTWt.out.cell 10
  have kt11 := HTWt.out.cell 11
  have kt12 := HTWt.out.cell 12
  have kt13 := HTWt.out.cell 13
  have kt14 := HTWt.out.cell 14
  simp only [tabC, List.getElem?_cons_zero, List.getElem?_cons_succ] at kt0 kt1 kt2 kt3 kt4 kt5 kt6 kt7 kt8 kt9 kt10 kt11 kt12 kt13 kt14
  have b0 := HTWw.out.cell 0
  have b1 := HTWw.out.cell 1
  have b2 := HTWw.out.cell 2
  have b3 := HTWw.out.cell 3
  have b4 := HTWw.out.cell 4
  have b5 := HTWw.out.cell 5
  have b6 := HTWw.out.cell 6
  have b7 := HTWw.out.cell 7
  have b8 := HTWw.out.cell 8
  have b9 := HTWw.out.cell 9
  have bA := HTWw.out.cell 10
  have bB := HTWw.out.cell 11
  have bC := HTWw.out.cell 12
  simp only [worldC, List.getElem?_cons_zero, List.getElem?_cons_succ] at b0 b1 b2 b3 b4 b5 b6 b7 b8 b9 bA bB bC
  clear hnew
  unfold worldV tabV at *
  go_enter Tryd.func18, Tryd.ntmps18
  unfold worldC at HLIT HHERE HLD HLS hW0 ⊢
  unfold tabC at HLIT HTI HTX HLS hW0 ⊢
  unfold mkS at HTI HTX HLS ⊢
  go_wp2_with fail
  clear hW0
  refine (HLIT.out _ HTW.out.bl).mono ?_
  rintro e w1 ⟨rfl, hb1⟩
  have hnew := HTW.out.below hb1
  clear hb1
  clear kt0 kt1 kt2 kt3 kt4 kt5 kt6 kt7 kt8 kt9 kt10 kt11 kt12 kt13 kt14
  clear b0 b1 b2 b3 b4 b5 b6 b7 b8 b9 bA bB bC
  clear HTWt HTWw
  clear HTW
  have HTW := Lib.hid (hnew)
  have HTWt := Lib.hid HTW.out.bt
  have HTWw := Lib.hid HTW.out.bw
  have kt0 := HTWt.out.cell 0
  have kt1 := HTWt.out.cell 1
  have kt2 := HTWt.out.cell 2
  have kt3 := HTWt.out.cell 3
  have kt4 := HTWt.out.cell 4
  have kt5 := HTWt.out.cell 5
  have kt6 := HTWt.out.cell 6
  have kt7 := HTWt.out.cell 7
  have kt8 := HTWt.out.cell 8
  have kt9 := HTWt.out.cell 9
  have kt10 := HTWt.out.cell 10
  have kt11 := HTWt.out.cell 11
  have kt12 := HTWt.out.cell 12
  have kt13 := HTWt.out.cell 13
  have kt14 := HTWt.out.cell 14
  simp only [tabC, List.getElem?_cons_zero, List.getElem?_cons_succ] at kt0 kt1 kt2 kt3 kt4 kt5 kt6 kt7 kt8 kt9 kt10 kt11 kt12 kt13 kt14
  have b0 := HTWw.out.cell 0
  have b1 := HTWw.out.cell 1
  have b2 := HTWw.out.cell 2
  have b3 := HTWw.out.cell 3
  have b4 := HTWw.out.cell 4
  have b5 := HTWw.out.cell 5
  have b6 := HTWw.out.cell 6
  have b7 := HTWw.out.cell 7
  have b8 := HTWw.out.cell 8
  have b9 := HTWw.out.cell 9
  have bA := HTWw.out.cell 10
  have bB := HTWw.out.cell 11
  have bC := HTWw.out.cell 12
  simp only [worldC, List.getElem?_cons_zero, List.getElem?_cons_succ] at b0 b1 b2 b3 b4 b5 b6 b7 b8 b9 bA bB bC
  clear hnew
  cases lit with
  | false =>
    go_wp2
    go_ret
    exact ⟨rfl, HTW.out.bl⟩
  | true =>
    go_wp2_with fail
    refine (HHERE.out _ HTW.out.bl).mono ?_
    rintro e w2 ⟨rfl, hb1⟩
    have hnew := HTW.out.below hb1
    clear hb1
    clear kt0 kt1 kt2 kt3 kt4 kt5 kt6 kt7 kt8 kt9 kt10 kt11 kt12 kt13 kt14
    clear b0 b1 b2 b3 b4 b5 b6 b7 b8 b9 bA bB bC
    clear HTWt HTWw
    clear HTW
    have HTW := Lib.hid (hnew)
    have HTWt := Lib.hid HTW.out.bt
    have HTWw := Lib.hid HTW.out.bw
    have kt0 := HTWt.out.cell 0
    have kt1 := HTWt.out.cell 1
    have kt2 := HTWt.out.cell 2
    have kt3 := HTWt.out.cell 3
    have kt4 := HTWt.out.cell 4
    have kt5 := HTWt.out.cell 5
    have kt6 := HTWt.out.cell 6
    have kt7 := HTWt.out.cell 7
    have kt8 := HTWt.out.cell 8
    have kt9 := HTWt.out.cell 9
    have kt10 := HTWt.out.cell 10
    have kt11 := HTWt.out.cell 11
    have kt12 := HTWt.out.cell 12
    have kt13 := HTWt.out.cell 13
    have kt14 := HTWt.out.cell 14
    simp only [tabC, List.getElem?_cons_zero, List.getElem?_cons_succ] at kt0 kt1 kt2 kt3 kt4 kt5 kt6 kt7 kt8 kt9 kt10 kt11 kt12 kt13 kt14
    have b0 := HTWw.out.cell 0
    have b1 := HTWw.out.cell 1
    have b2 := HTWw.out.cell 2
    have b3 := HTWw.out.cell 3
    have b4 := HTWw.out.cell 4
    have b5 := HTWw.out.cell 5
    have b6 := HTWw.out.cell 6
    have b7 := HTWw.out.cell 7
    have b8 := HTWw.out.cell 8
    have b9 := HTWw.out.cell 9
    have bA := HTWw.out.cell 10
    have bB := HTWw.out.cell 11
    have bC := HTWw.out.cell 12
    simp only [worldC, List.getElem?_cons_zero, List.getElem?_cons_succ] at b0 b1 b2 b3 b4 b5 b6 b7 b8 b9 bA bB bC
    clear hnew
    go_wp2_with fail
    refine (HTI.out _ HTW.out.bl).mono ?_
    rintro e w3 ⟨rfl, hb1⟩
    have hnew := HTW.out.below hb1
    clear hb1
    clear kt0 kt1 kt2 kt3 kt4 kt5 kt6 kt7 kt8 kt9 kt10 kt11 kt12 kt13 kt14
    clear b0 b1 b2 b3 b4 b5 b6 b7 b8 b9 bA bB bC
    clear HTWt HTWw
    clear HTW
    have HTW := Lib.hid (hnew)
    have HTWt := Lib.hid HTW.out.bt
    have HTWw := Lib.hid HTW.out.bw
    have kt0 := HTWt.out.cell 0
    have kt1 := HTWt.out.cell 1
    have kt2 := HTWt.out.cell 2
    have kt3 := HTWt.out.cell 3
    have kt4 := HTWt.out.cell 4
    have kt5 := HTWt.out.cell 5
    have kt6 := HTWt.out.cell 6
    have kt7 := HTWt.out.cell 7
    have kt8 := HTWt.out.cell 8
    have kt9 := HTWt.out.cell 9
    have kt10 := HTWt.out.cell 10
    have kt11 := HTWt.out.cell 11
    have kt12 := HTWt.out.cell 12
    have kt13 := HTWt.out.cell 13
    have kt14 := HTWt.out.cell 14
    simp only [tabC, List.getElem?_cons_zero, List.getElem?_cons_succ] at kt0 kt1 kt2 kt3 kt4 kt5 kt6 kt7 kt8 kt9 kt10 kt11 kt12 kt13 kt14
    have b0 := HTWw.out.cell 0
    have b1 := HTWw.out.cell 1
    have b2 := HTWw.out.cell 2
    have b3 := HTWw.out.cell 3
    have b4 := HTWw.out.cell 4
    have b5 := HTWw.out.cell 5
    have b6 := HTWw.out.cell 6
    have b7 := HTWw.out.cell 7
    have b8 := HTWw.out.cell 8
    have b9 := HTWw.out.cell 9
    have bA := HTWw.out.cell 10
    have bB := HTWw.out.cell 11
    have bC := HTWw.out.cell 12
    simp only [worldC, List.getElem?_cons_zero, List.getElem?_cons_succ] at b0 b1 b2 b3 b4 b5 b6 b7 b8 b9 bA bB bC
    clear hnew
    have hcx := HE.out _ HTW.out.bl
    obtain ⟨s1, hs1⟩ : ∃ s1, ti ++ [10] = s1 := ⟨_, rfl⟩
    have f1 : (⟨ti.toArray⟩ : ByteArray) ++ ⟨#[10]⟩ = ⟨s1.toArray⟩ := by
      rw [show (⟨#[10]⟩ : ByteArray) = ⟨([10] : TxC).toArray⟩ from rfl, ba_app, hs1]
    have lf1 : s1.length ≤ 1025 := by rw [← hs1]; simp; omega
    have HS1 := Lib.hid hs1.symm
    clear hs1
    by_cases htx : tx = -1
    · have hqx : (tx != -1) = false := by simpa using htx
      have HX := Lib.hid htx
      clear htx
      go_wp2_with fail
      refine (HLD.out _ HTW.out.bl).mono ?_
      rintro e w7 ⟨v7, rfl, how, hb7⟩
      obtain ⟨a7, c7, rfl⟩ := how.shape
      clear how
      have hnew := HTW.out.below hb7
      clear hb7
      clear kt0 kt1 kt2 kt3 kt4 kt5 kt6 kt7 kt8 kt9 kt10 kt11 kt12 kt13 kt14
      clear b0 b1 b2 b3 b4 b5 b6 b7 b8 b9 bA bB bC
      clear HTWt HTWw
      clear HTW
      have HTW := Lib.hid (hnew)
      have HTWt := Lib.hid HTW.out.bt
      have HTWw := Lib.hid HTW.out.bw
      have kt0 := HTWt.out.cell 0
      have kt1 := HTWt.out.cell 1
      have kt2 := HTWt.out.cell 2
      have kt3 := HTWt.out.cell 3
      have kt4 := HTWt.out.cell 4
      have kt5 := HTWt.out.cell 5
      have kt6 := HTWt.out.cell 6
      have kt7 := HTWt.out.cell 7
      have kt8 := HTWt.out.cell 8
      have kt9 := HTWt.out.cell 9
      have kt10 := HTWt.out.cell 10
      have kt11 := HTWt.out.cell 11
      have kt12 := HTWt.out.cell 12
      have kt13 := HTWt.out.cell 13
      have kt14 := HTWt.out.cell 14
      simp only [tabC, List.getElem?_cons_zero, List.getElem?_cons_succ] at kt0 kt1 kt2 kt3 kt4 kt5 kt6 kt7 kt8 kt9 kt10 kt11 kt12 kt13 kt14
      have b0 := HTWw.out.cell 0
      have b1 := HTWw.out.cell 1
      have b2 := HTWw.out.cell 2
      have b3 := HTWw.out.cell 3
      have b4 := HTWw.out.cell 4
      have b5 := HTWw.out.cell 5
      have b6 := HTWw.out.cell 6
      have b7 := HTWw.out.cell 7
      have b8 := HTWw.out.cell 8
      have b9 := HTWw.out.cell 9
      have bA := HTWw.out.cell 10
      have bB := HTWw.out.cell 11
      have bC := HTWw.out.cell 12
      simp only [worldC, List.getElem?_cons_zero, List.getElem?_cons_succ] at b0 b1 b2 b3 b4 b5 b6 b7 b8 b9 bA bB bC
      clear hnew
      rw [HLL.out]
      cases ls with
      | nil =>
        go_wp2_with fail
        go_ret
        exact ⟨by show Ending.returned (.string ⟨(s1).toArray⟩) = _; rw [HLN.out, HS1.out]; simp [joinL, HX.out]; try rfl, HTW.out.bl⟩
      | cons l0 lt =>
        go_wp2_with fail
        refine (HLS.out _ HTW.out.bl).mono ?_
        rintro e w8 ⟨rfl, hb8⟩
        have hnew := HTW.out.below hb8
        clear hb8
        clear kt0 kt1 kt2 kt3 kt4 kt5 kt6 kt7 kt8 kt9 kt10 kt11 kt12 kt13 kt14
        clear b0 b1 b2 b3 b4 b5 b6 b7 b8 b9 bA bB bC
        clear HTWt HTWw
        clear HTW
        have HTW := Lib.hid (hnew)
        have HTWt := Lib.hid HTW.out.bt
        have HTWw := Lib.hid HTW.out.bw
        have kt0 := HTWt.out.cell 0
        have kt1 := HTWt.out.cell 1
        have kt2 := HTWt.out.cell 2
        have kt3 := HTWt.out.cell 3
        have kt4 := HTWt.out.cell 4
        have kt5 := HTWt.out.cell 5
        have kt6 := HTWt.out.cell 6
        have kt7 := HTWt.out.cell 7
        have kt8 := HTWt.out.cell 8
        have kt9 := HTWt.out.cell 9
        have kt10 := HTWt.out.cell 10
        have kt11 := HTWt.out.cell 11
        have kt12 := HTWt.out.cell 12
        have kt13 := HTWt.out.cell 13
        have kt14 := HTWt.out.cell 14
        simp only [tabC, List.getElem?_cons_zero, List.getElem?_cons_succ] at kt0 kt1 kt2 kt3 kt4 kt5 kt6 kt7 kt8 kt9 kt10 kt11 kt12 kt13 kt14
        have b0 := HTWw.out.cell 0
        have b1 := HTWw.out.cell 1
        have b2 := HTWw.out.cell 2
        have b3 := HTWw.out.cell 3
        have b4 := HTWw.out.cell 4
        have b5 := HTWw.out.cell 5
        have b6 := HTWw.out.cell 6
        have b7 := HTWw.out.cell 7
        have b8 := HTWw.out.cell 8
        have b9 := HTWw.out.cell 9
        have bA := HTWw.out.cell 10
        have bB := HTWw.out.cell 11
        have bC := HTWw.out.cell 12
        simp only [worldC, List.getElem?_cons_zero, List.getElem?_cons_succ] at b0 b1 b2 b3 b4 b5 b6 b7 b8 b9 bA bB bC
        clear hnew
        obtain ⟨y1, hy1⟩ : ∃ y1, seeL ++ rl = y1 := ⟨_, rfl⟩
        obtain ⟨y2, hy2⟩ : ∃ y2, y1 ++ [46, 10] = y2 := ⟨_, rfl⟩
        obtain ⟨y3, hy3⟩ : ∃ y3, s1 ++ y2 = y3 := ⟨_, rfl⟩
        have g1 : (⟨#[89, 111, 117, 32, 115, 101, 101, 32]⟩ : ByteArray) ++ ⟨rl.toArray⟩ = ⟨y1.toArray⟩ := by
          rw [show (⟨#[89, 111, 117, 32, 115, 101, 101, 32]⟩ : ByteArray) = ⟨seeL.toArray⟩ from rfl, ba_app, hy1]
        have g2 : (⟨y1.toArray⟩ : ByteArray) ++ ⟨#[46, 10]⟩ = ⟨y2.toArray⟩ := by
          rw [show (⟨#[46, 10]⟩ : ByteArray) = ⟨([46, 10] : TxC).toArray⟩ from rfl, ba_app, hy2]
        have g3 : (⟨(s1).toArray⟩ : ByteArray) ++ ⟨y2.toArray⟩ = ⟨y3.toArray⟩ := by rw [ba_app, hy3]
        have lg1 : y1.length ≤ 1030040 := by rw [← hy1]; simp [seeL]; omega
        have lg2 : y2.length ≤ 1030050 := by rw [← hy2]; simp; omega
        have HY1 := Lib.hid hy1
        have HY2 := Lib.hid hy2
        have HY3 := Lib.hid hy3
        clear hy1 hy2 hy3
        go_wp2_with fail
        go_ret
        exact ⟨by show Ending.returned (.string ⟨y3.toArray⟩) = _; rw [HLN.out, ← HY3.out, ← HY2.out, ← HY1.out, HS1.out]; simp [joinL, HX.out]; try rfl, HTW.out.bl⟩
    · have hqx : (tx != -1) = true := by simpa using htx
      have HX := Lib.hid htx
      clear htx
      obtain ⟨u1, hu1⟩ : ∃ u1, tt ++ [10] = u1 := ⟨_, rfl⟩
      obtain ⟨s2, hs2⟩ : ∃ s2, s1 ++ u1 = s2 := ⟨_, rfl⟩
      have f2 : (⟨tt.toArray⟩ : ByteArray) ++ ⟨#[10]⟩ = ⟨u1.toArray⟩ := by
        rw [show (⟨#[10]⟩ : ByteArray) = ⟨([10] : TxC).toArray⟩ from rfl, ba_app, hu1]
      have f3 : (⟨s1.toArray⟩ : ByteArray) ++ ⟨u1.toArray⟩ = ⟨s2.toArray⟩ := by rw [ba_app, hs2]
      have lf2 : u1.length ≤ 1025 := by rw [← hu1]; simp; omega
      have lf3 : s2.length ≤ 2050 := by rw [← hs2]; simp; omega
      have HS2 : Hid (s2 = ti ++ [10] ++ (tt ++ [10])) := Lib.hid (by rw [← hs2, ← hu1, HS1.out])
      clear hu1 hs2
      have hlt0 : w.heap.size < w3.heap.size := HTW.out.bt.lt
      have hlt1 : w.heap.size + 1 < w3.heap.size := HTW.out.bw.lt
      have hblr : b < w3.heap.size := Nat.lt_of_lt_of_le hblt HTW.out.bl.size
      go_wp2_with fail
      refine region_text (fun w' => Below w3.heap.size w3 w') (by kernel_rfl) (by kernel_rfl) ((Below.refl _ _).drew) (fun KK hKK => ?_)
      intro OPS
      try simp only [List.append]
      repeat (first
        | (refine' inText_val ?_ ?_ ?_ ?_
           rotate_left 2
           · rfl
           · (intro w' hS; obtain ⟨hcc, hff⟩ := bcell hS; go_simp; first | with_reducible rfl | (rw [if_neg (by omega)]; done) | (rw [if_neg (by omega)]; with_reducible rfl) | skip)
           · (simp only [Act.put, List.setIfInBounds_toArray, List.set_cons_zero, List.set_cons_succ]; with_reducible rfl))
        | (refine' inText_call ?_ ?_ ?_ ?_ ?_
           rotate_left 4
           · rfl
           · (intro w' hS; obtain ⟨hcc, hff⟩ := bcell hS; go_simp; exact ⟨rfl, rfl⟩)
           · (intro w' hS
              ((with_reducible refine (HTX.out w' (bl_then HTW.out.bl hS)).mono ?_); exact fun e w'' h => ⟨h.1, bl_then hS h.2⟩))
           · (simp only [Act.put, List.setIfInBounds_toArray, List.set_cons_zero, List.set_cons_succ]; with_reducible rfl)))
      refine inText_nil (hKK.out _ (fun w5 hS => ?_))
      clear hKK hcx
      have hnew := HTW.out.below hS
      clear hS
      clear kt0 kt1 kt2 kt3 kt4 kt5 kt6 kt7 kt8 kt9 kt10 kt11 kt12 kt13 kt14
      clear b0 b1 b2 b3 b4 b5 b6 b7 b8 b9 bA bB bC
      clear HTWt HTWw
      clear HTW
      have HTW := Lib.hid (hnew)
      have HTWt := Lib.hid HTW.out.bt
      have HTWw := Lib.hid HTW.out.bw
      have kt0 := HTWt.out.cell 0
      have kt1 := HTWt.out.cell 1
      have kt2 := HTWt.out.cell 2
      have kt3 := HTWt.out.cell 3
      have kt4 := HTWt.out.cell 4
      have kt5 := HTWt.out.cell 5
      have kt6 := HTWt.out.cell 6
      have kt7 := HTWt.out.cell 7
      have kt8 := HTWt.out.cell 8
      have kt9 := HTWt.out.cell 9
      have kt10 := HTWt.out.cell 10
      have kt11 := HTWt.out.cell 11
      have kt12 := HTWt.out.cell 12
      have kt13 := HTWt.out.cell 13
      have kt14 := HTWt.out.cell 14
      simp only [tabC, List.getElem?_cons_zero, List.getElem?_cons_succ] at kt0 kt1 kt2 kt3 kt4 kt5 kt6 kt7 kt8 kt9 kt10 kt11 kt12 kt13 kt14
      have b0 := HTWw.out.cell 0
      have b1 := HTWw.out.cell 1
      have b2 := HTWw.out.cell 2
      have b3 := HTWw.out.cell 3
      have b4 := HTWw.out.cell 4
      have b5 := HTWw.out.cell 5
      have b6 := HTWw.out.cell 6
      have b7 := HTWw.out.cell 7
      have b8 := HTWw.out.cell 8
      have b9 := HTWw.out.cell 9
      have bA := HTWw.out.cell 10
      have bB := HTWw.out.cell 11
      have bC := HTWw.out.cell 12
      simp only [worldC, List.getElem?_cons_zero, List.getElem?_cons_succ] at b0 b1 b2 b3 b4 b5 b6 b7 b8 b9 bA bB bC
      clear hnew
      go_wp2_with fail
      refine (HLD.out _ HTW.out.bl).mono ?_
      rintro e w7 ⟨v7, rfl, how, hb7⟩
      obtain ⟨a7, c7, rfl⟩ := how.shape
      clear how
      have hnew := HTW.out.below hb7
      clear hb7
      clear kt0 kt1 kt2 kt3 kt4 kt5 kt6 kt7 kt8 kt9 kt10 kt11 kt12 kt13 kt14
      clear b0 b1 b2 b3 b4 b5 b6 b7 b8 b9 bA bB bC
      clear HTWt HTWw
      clear HTW
      have HTW := Lib.hid (hnew)
      have HTWt := Lib.hid HTW.out.bt
      have HTWw := Lib.hid HTW.out.bw
      have kt0 := HTWt.out.cell 0
      have kt1 := HTWt.out.cell 1
      have kt2 := HTWt.out.cell 2
      have kt3 := HTWt.out.cell 3
      have kt4 := HTWt.out.cell 4
      have kt5 := HTWt.out.cell 5
      have kt6 := HTWt.out.cell 6
      have kt7 := HTWt.out.cell 7
      have kt8 := HTWt.out.cell 8
      have kt9 := HTWt.out.cell 9
      have kt10 := HTWt.out.cell 10
      have kt11 := HTWt.out.cell 11
      have kt12 := HTWt.out.cell 12
      have kt13 := HTWt.out.cell 13
      have kt14 := HTWt.out.cell 14
      simp only [tabC, List.getElem?_cons_zero, List.getElem?_cons_succ] at kt0 kt1 kt2 kt3 kt4 kt5 kt6 kt7 kt8 kt9 kt10 kt11 kt12 kt13 kt14
      have b0 := HTWw.out.cell 0
      have b1 := HTWw.out.cell 1
      have b2 := HTWw.out.cell 2
      have b3 := HTWw.out.cell 3
      have b4 := HTWw.out.cell 4
      have b5 := HTWw.out.cell 5
      have b6 := HTWw.out.cell 6
      have b7 := HTWw.out.cell 7
      have b8 := HTWw.out.cell 8
      have b9 := HTWw.out.cell 9
      have bA := HTWw.out.cell 10
      have bB := HTWw.out.cell 11
      have bC := HTWw.out.cell 12
      simp only [worldC, List.getElem?_cons_zero, List.getElem?_cons_succ] at b0 b1 b2 b3 b4 b5 b6 b7 b8 b9 bA bB bC
      clear hnew
      rw [HLL.out]
      cases ls with
      | nil =>
        go_wp2_with fail
        go_ret
        exact ⟨by show Ending.returned (.string ⟨(s2).toArray⟩) = _; rw [HLN.out, HS2.out]; simp [joinL, HX.out]; try rfl, HTW.out.bl⟩
      | cons l0 lt =>
        go_wp2_with fail
        refine (HLS.out _ HTW.out.bl).mono ?_
        rintro e w8 ⟨rfl, hb8⟩
        have hnew := HTW.out.below hb8
        clear hb8
        clear kt0 kt1 kt2 kt3 kt4 kt5 kt6 kt7 kt8 kt9 kt10 kt11 kt12 kt13 kt14
        clear b0 b1 b2 b3 b4 b5 b6 b7 b8 b9 bA bB bC
        clear HTWt HTWw
        clear HTW
        have HTW := Lib.hid (hnew)
        have HTWt := Lib.hid HTW.out.bt
        have HTWw := Lib.hid HTW.out.bw
        have kt0 := HTWt.out.cell 0
        have kt1 := HTWt.out.cell 1
        have kt2 := HTWt.out.cell 2
        have kt3 := HTWt.out.cell 3
        have kt4 := HTWt.out.cell 4
        have kt5 := HTWt.out.cell 5
        have kt6 := HTWt.out.cell 6
        have kt7 := HTWt.out.cell 7
        have kt8 := HTWt.out.cell 8
        have kt9 := HTWt.out.cell 9
        have kt10 := HTWt.out.cell 10
        have kt11 := HTWt.out.cell 11
        have kt12 := HTWt.out.cell 12
        have kt13 := HTWt.out.cell 13
        have kt14 := HTWt.out.cell 14
        simp only [tabC, List.getElem?_cons_zero, List.getElem?_cons_succ] at kt0 kt1 kt2 kt3 kt4 kt5 kt6 kt7 kt8 kt9 kt10 kt11 kt12 kt13 kt14
        have b0 := HTWw.out.cell 0
        have b1 := HTWw.out.cell 1
        have b2 := HTWw.out.cell 2
        have b3 := HTWw.out.cell 3
        have b4 := HTWw.out.cell 4
        have b5 := HTWw.out.cell 5
        have b6 := HTWw.out.cell 6
        have b7 := HTWw.out.cell 7
        have b8 := HTWw.out.cell 8
        have b9 := HTWw.out.cell 9
        have bA := HTWw.out.cell 10
        have bB := HTWw.out.cell 11
        have bC := HTWw.out.cell 12
        simp only [worldC, List.getElem?_cons_zero, List.getElem?_cons_succ] at b0 b1 b2 b3 b4 b5 b6 b7 b8 b9 bA bB bC
        clear hnew
        obtain ⟨y1, hy1⟩ : ∃ y1, seeL ++ rl = y1 := ⟨_, rfl⟩
        obtain ⟨y2, hy2⟩ : ∃ y2, y1 ++ [46, 10] = y2 := ⟨_, rfl⟩
        obtain ⟨y3, hy3⟩ : ∃ y3, s2 ++ y2 = y3 := ⟨_, rfl⟩
        have g1 : (⟨#[89, 111, 117, 32, 115, 101, 101, 32]⟩ : ByteArray) ++ ⟨rl.toArray⟩ = ⟨y1.toArray⟩ := by
          rw [show (⟨#[89, 111, 117, 32, 115, 101, 101, 32]⟩ : ByteArray) = ⟨seeL.toArray⟩ from rfl, ba_app, hy1]
        have g2 : (⟨y1.toArray⟩ : ByteArray) ++ ⟨#[46, 10]⟩ = ⟨y2.toArray⟩ := by
          rw [show (⟨#[46, 10]⟩ : ByteArray) = ⟨([46, 10] : TxC).toArray⟩ from rfl, ba_app, hy2]
        have g3 : (⟨(s2).toArray⟩ : ByteArray) ++ ⟨y2.toArray⟩ = ⟨y3.toArray⟩ := by rw [ba_app, hy3]
        have lg1 : y1.length ≤ 1030040 := by rw [← hy1]; simp [seeL]; omega
        have lg2 : y2.length ≤ 1030050 := by rw [← hy2]; simp; omega
        have HY1 := Lib.hid hy1
        have HY2 := Lib.hid hy2
        have HY3 := Lib.hid hy3
        clear hy1 hy2 hy3
        go_wp2_with fail
        go_ret
        exact ⟨by show Ending.returned (.string ⟨y3.toArray⟩) = _; rw [HLN.out, ← HY3.out, ← HY2.out, ← HY1.out, HS2.out]; simp [joinL, HX.out]; try rfl, HTW.out.bl⟩
end Go.Proofs.YtjnpinfnpnohmaaDoor
