/- The walk of TellHides. -/
import Derived.Test.YtjnpinfnpnohmaaDoorSet
import Derived.Test.YtjnpinfnpnohmaaDoorRef32
import Derived.Test.YtjnpinfnpnohmaaDoorRef29
import Derived.Test.YtjnpinfnpnohmaaDoorFits
import Derived.Test.YtjnpinfnpnohmaaDoorHall
namespace Go.Proofs.YtjnpinfnpnohmaaDoor
open Go.RowKit Go.PlainAid
set_option linter.unusedVariables false
set_option linter.unusedSimpArgs false

set_option maxRecDepth 100000 in
set_option maxHeartbeats 8000000 in
theorem walkHides (x : TAd) (t : TbC) (q : Wv) (d : WdC) (y : Int) (w : World) (ht : TabIs w x t) (hw : WRd w q d) (htab : Lib.TabIs Tryd.prog w "internal/strconv.uint64pow10" .u64 Lib.pow10Tab) :
    Calls Tryd.prog 6 #[tabV x t, worldV q, .int .i64 y] w fun e w' => e = .returned (.bool true) ∧ Below w.heap.size w w' := by
  have hnew := Two.new x t q w
  obtain ⟨W0, hW0⟩ : ∃ W0, (w.alloc (.cells (tabC x t).toArray 28)).alloc (.cells (worldC q).toArray 34) = W0 := ⟨_, rfl⟩
  rw [hW0] at hnew
  have HFI := Lib.hid (fun w' (hb : Below w.heap.size w w') => refFits x t w' (ht.below hb))
  have HRI := Lib.hid (fun w' (hb : Below w.heap.size w w') (hf : FitsOk t) => refRight x t q d w' (ht.below hb) (hw.below hb) hf)
  have HA := Lib.hid (fun w' (hb : Below w.heap.size w w') => awake24 w' (tab_belowT htab hb))
  have HOK := Lib.hid (fun (hf : FitsOk t) (hr : RightOk t q d) w' (hb : Below w.heap.size w w') => hr.ok hf (hw.below hb))
  have HIS := Lib.hid (fun (hf : FitsOk t) (hr : RightOk t q d) w' (hb : Below w.heap.size w w') => ref20Is q y w' (hr.ok hf (hw.below hb)).m1)
  have HL := Lib.hid (fun (hf : FitsOk t) (hr : RightOk t q d) i w' (hb : Below w.heap.size w w') => listC x t q d t.th.length i w' (ht.below hb) (hr.ok hf (hw.below hb)) hf.tw.tx)
  have HLI := Lib.hid (fun (hf : FitsOk t) (hr : RightOk t q d) i w' (hb : Below w.heap.size w w') => ref24Listed q d i t.th.length w' (hr.ok hf (hw.below hb)))
  have HK := Lib.hid (fun (hf : FitsOk t) (hr : RightOk t q d) w' (hb : Below w.heap.size w w') => lookC x t q d t.th.length w' (ht.below hb) (hr.ok hf (hw.below hb)) hf.tw)
  have HT := Lib.hid (fun (hf : FitsOk t) (hr : RightOk t q d) w' (hb : Below w.heap.size w w') => refLit x t q d t.th.length w' (hr.ok hf (hw.below hb)) (by have := hr.nest.dup; rwa [hr.h1] at this))
  have HTB := Lib.hid (fun w' (hb : Below w.heap.size w w') => ht.below hb)
  clear ht hw htab
  obtain ⟨a0, a1, a2, a3, a4, a5, a6, l0, l1, l2, l3, l4, l5, l6, c0, c1, c2, c3, c4, c5, c6, s, sc, tu, ov, it, go⟩ := q
  have HTW := Lib.hid (hnew)
  have HTWt := Lib.hid HTW.out.bt
  have HTWw := Lib.hid HTW.out.bw
  have kt0 := HTWt.out.cell 0
  have kt1 := HTWt.out.cell 1
  have kt2 := HTWt.out.cell 2
  have kt3 := HTWt.out.cell 3
  have kt4 := HTWt.out.cell 4
  have kt5 := HTWt.out.cell 5
  have kt6 := HTWt.out.cell 6
  have kt7 := HTWt.out.cell 7
  have kt8 := HTWt.out.cell 8
  have kt9 := HTWt.out.cell 9
  have kt10 := HTWt.out.cell 10
  have kt11 := HTWt.out.cell 11
  have kt12 := HTWt.out.cell 12
  have kt13 := HTWt.out.cell 13
  have kt14 := HTWt.out.cell 14
  simp only [tabC, List.getElem?_cons_zero, List.getElem?_cons_succ] at kt0 kt1 kt2 kt3 kt4 kt5 kt6 kt7 kt8 kt9 kt10 kt11 kt12 kt13 kt14
  have b0 := HTWw.out.cell 0
  have b1 := HTWw.out.cell 1
  have b2 := HTWw.out.cell 2
  have b3 := HTWw.out.cell 3
  have b4 := HTWw.out.cell 4
  have b5 := HTWw.out.cell 5
  have b6 := HTWw.out.cell 6
  have b7 := HTWw.out.cell 7
  have b8 := HTWw.out.cell 8
  have b9 := HTWw.out.cell 9
  have bA := HTWw.out.cell 10
  have bB := HTWw.out.cell 11
  have bC := HTWw.out.cell 12
  simp only [worldC, List.getElem?_cons_zero, List.getElem?_cons_succ] at b0 b1 b2 b3 b4 b5 b6 b7 b8 b9 bA bB bC
  clear hnew
  unfold tabV worldV mkS at *
  go_enter Tryd.func6, Tryd.ntmps6
  unfold worldC at HRI HL HLI HK HT HIS hW0 ⊢
  unfold tabC at HFI HRI HL HK HT hW0 ⊢
  dsimp only at HRI HL HLI HK HT HIS hW0 ⊢
  go_wp2_with fail
  clear hW0
  refine (HFI.out _ HTW.out.bl).mono ?_
  rintro e w1 ⟨bf, rfl, hbf, hb1⟩
  have HBF := Lib.hid hbf
  have hnew := HTW.out.below hb1
  clear hbf hb1
  clear kt0 kt1 kt2 kt3 kt4 kt5 kt6 kt7 kt8 kt9 kt10 kt11 kt12 kt13 kt14
  clear b0 b1 b2 b3 b4 b5 b6 b7 b8 b9 bA bB bC
  clear HTWt HTWw
  clear HTW HFI
  have HTW := Lib.hid (hnew)
  have HTWt := Lib.hid HTW.out.bt
  have HTWw := Lib.hid HTW.out.bw
  have kt0 := HTWt.out.cell 0
  have kt1 := HTWt.out.cell 1
  have kt2 := HTWt.out.cell 2
  have kt3 := HTWt.out.cell 3
  have kt4 := HTWt.out.cell 4
  have kt5 := HTWt.out.cell 5
  have kt6 := HTWt.out.cell 6
  have kt7 := HTWt.out.cell 7
  have kt8 := HTWt.out.cell 8
  have kt9 := HTWt.out.cell 9
  have kt10 := HTWt.out.cell 10
  have kt11 := HTWt.out.cell 11
  have kt12 := HTWt.out.cell 12
  have kt13 := HTWt.out.cell 13
  have kt14 := HTWt.out.cell 14
  simp only [tabC, List.getElem?_cons_zero, List.getElem?_cons_succ] at kt0 kt1 kt2 kt3 kt4 kt5 kt6 kt7 kt8 kt9 kt10 kt11 kt12 kt13 kt14
  have b0 := HTWw.out.cell 0
  have b1 := HTWw.out.cell 1
  have b2 := HTWw.out.cell 2
  have b3 := HTWw.out.cell 3
  have b4 := HTWw.out.cell 4
  have b5 := HTWw.out.cell 5
  have b6 := HTWw.out.cell 6
  have b7 := HTWw.out.cell 7
  have b8 := HTWw.out.cell 8
  have b9 := HTWw.out.cell 9
  have bA := HTWw.out.cell 10
  have bB := HTWw.out.cell 11
  have bC := HTWw.out.cell 12
  simp only [worldC, List.getElem?_cons_zero, List.getElem?_cons_succ] at b0 b1 b2 b3 b4 b5 b6 b7 b8 b9 bA bB bC
  clear hnew
  cases bf with
  | false =>
    go_wp2_with fail
    refine (HA.out _ HTW.out.bl).mono ?_
    rintro e w9 ⟨rfl, hb9⟩
    have HB9 := Lib.hid (bl_then HTW.out.bl hb9)
    clear hb9
    clear kt0 kt1 kt2 kt3 kt4 kt5 kt6 kt7 kt8 kt9 kt10 kt11 kt12 kt13 kt14
    clear b0 b1 b2 b3 b4 b5 b6 b7 b8 b9 bA bB bC
    clear HTWt HTWw
    go_wp2_with fail
    go_ret
    exact ⟨rfl, HB9.out⟩
  | true =>
    have HF := Lib.hid (HBF.out rfl)
    go_wp2_with fail
    refine (HRI.out _ HTW.out.bl HF.out).mono ?_
    rintro e w2 ⟨br, rfl, hbr, hb2⟩
    have HBR := Lib.hid hbr
    have hnew := HTW.out.below hb2
    clear hbr hb2
    clear kt0 kt1 kt2 kt3 kt4 kt5 kt6 kt7 kt8 kt9 kt10 kt11 kt12 kt13 kt14
    clear b0 b1 b2 b3 b4 b5 b6 b7 b8 b9 bA bB bC
    clear HTWt HTWw
    clear HTW HRI HBF
    have HTW := Lib.hid (hnew)
    have HTWt := Lib.hid HTW.out.bt
    have HTWw := Lib.hid HTW.out.bw
    have kt0 := HTWt.out.cell 0
    have kt1 := HTWt.out.cell 1
    have kt2 := HTWt.out.cell 2
    have kt3 := HTWt.out.cell 3
    have kt4 := HTWt.out.cell 4
    have kt5 := HTWt.out.cell 5
    have kt6 := HTWt.out.cell 6
    have kt7 := HTWt.out.cell 7
    have kt8 := HTWt.out.cell 8
    have kt9 := HTWt.out.cell 9
    have kt10 := HTWt.out.cell 10
    have kt11 := HTWt.out.cell 11
    have kt12 := HTWt.out.cell 12
    have kt13 := HTWt.out.cell 13
    have kt14 := HTWt.out.cell 14
    simp only [tabC, List.getElem?_cons_zero, List.getElem?_cons_succ] at kt0 kt1 kt2 kt3 kt4 kt5 kt6 kt7 kt8 kt9 kt10 kt11 kt12 kt13 kt14
    have b0 := HTWw.out.cell 0
    have b1 := HTWw.out.cell 1
    have b2 := HTWw.out.cell 2
    have b3 := HTWw.out.cell 3
    have b4 := HTWw.out.cell 4
    have b5 := HTWw.out.cell 5
    have b6 := HTWw.out.cell 6
    have b7 := HTWw.out.cell 7
    have b8 := HTWw.out.cell 8
    have b9 := HTWw.out.cell 9
    have bA := HTWw.out.cell 10
    have bB := HTWw.out.cell 11
    have bC := HTWw.out.cell 12
    simp only [worldC, List.getElem?_cons_zero, List.getElem?_cons_succ] at b0 b1 b2 b3 b4 b5 b6 b7 b8 b9 bA bB bC
    clear hnew
    cases br with
    | false =>
      go_wp2_with fail
      refine (HA.out _ HTW.out.bl).mono ?_
      rintro e w9 ⟨rfl, hb9⟩
      have HB9 := Lib.hid (bl_then HTW.out.bl hb9)
      clear hb9
      clear kt0 kt1 kt2 kt3 kt4 kt5 kt6 kt7 kt8 kt9 kt10 kt11 kt12 kt13 kt14
      clear b0 b1 b2 b3 b4 b5 b6 b7 b8 b9 bA bB bC
      clear HTWt HTWw
      go_wp2_with fail
      go_ret
      exact ⟨rfl, HB9.out⟩
    | true =>
      have HRO := Lib.hid (HBR.out rfl)
      have HL := Lib.hid (HL.out HF.out HRO.out)
      have HLI := Lib.hid (HLI.out HF.out HRO.out)
      have HK := Lib.hid (HK.out HF.out HRO.out)
      have HT := Lib.hid (HT.out HF.out HRO.out)
      have HOK := Lib.hid (HOK.out HF.out HRO.out)
      have HIS := Lib.hid (HIS.out HF.out HRO.out)
      have HTX := Lib.hid HF.out.tw.tx
      go_wp2_with fail
      refine (HIS.out _ HTW.out.bl).mono ?_
      rintro e w4 ⟨rfl, hb4⟩
      have hnew := HTW.out.below hb4
      clear kt0 kt1 kt2 kt3 kt4 kt5 kt6 kt7 kt8 kt9 kt10 kt11 kt12 kt13 kt14
      clear b0 b1 b2 b3 b4 b5 b6 b7 b8 b9 bA bB bC
      clear HTWt HTWw
      clear HTW
      have HTW := Lib.hid (hnew)
      have HTWt := Lib.hid HTW.out.bt
      have HTWw := Lib.hid HTW.out.bw
      have kt0 := HTWt.out.cell 0
      have kt1 := HTWt.out.cell 1
      have kt2 := HTWt.out.cell 2
      have kt3 := HTWt.out.cell 3
      have kt4 := HTWt.out.cell 4
      have kt5 := HTWt.out.cell 5
      have kt6 := HTWt.out.cell 6
      have kt7 := HTWt.out.cell 7
      have kt8 := HTWt.out.cell 8
      have kt9 := HTWt.out.cell 9
      have kt10 := HTWt.out.cell 10
      have kt11 := HTWt.out.cell 11
      have kt12 := HTWt.out.cell 12
      have kt13 := HTWt.out.cell 13
      have kt14 := HTWt.out.cell 14
      simp only [tabC, List.getElem?_cons_zero, List.getElem?_cons_succ] at kt0 kt1 kt2 kt3 kt4 kt5 kt6 kt7 kt8 kt9 kt10 kt11 kt12 kt13 kt14
      have b0 := HTWw.out.cell 0
      have b1 := HTWw.out.cell 1
      have b2 := HTWw.out.cell 2
      have b3 := HTWw.out.cell 3
      have b4 := HTWw.out.cell 4
      have b5 := HTWw.out.cell 5
      have b6 := HTWw.out.cell 6
      have b7 := HTWw.out.cell 7
      have b8 := HTWw.out.cell 8
      have b9 := HTWw.out.cell 9
      have bA := HTWw.out.cell 10
      have bB := HTWw.out.cell 11
      have bC := HTWw.out.cell 12
      simp only [worldC, List.getElem?_cons_zero, List.getElem?_cons_succ] at b0 b1 b2 b3 b4 b5 b6 b7 b8 b9 bA bB bC
      clear hnew
      clear hb4
      cases hx : isW l1 y with
      | false =>
        go_wp2_with fail
        refine (HA.out _ HTW.out.bl).mono ?_
        rintro e w9 ⟨rfl, hb9⟩
        have HB9 := Lib.hid (bl_then HTW.out.bl hb9)
        clear hb9
        clear kt0 kt1 kt2 kt3 kt4 kt5 kt6 kt7 kt8 kt9 kt10 kt11 kt12 kt13 kt14
        clear b0 b1 b2 b3 b4 b5 b6 b7 b8 b9 bA bB bC
        clear HTWt HTWw
        go_wp2_with fail
        go_ret
        exact ⟨rfl, HB9.out⟩
      | true =>
        have hW := HOK.out _ HTW.out.bl
        have hl1 : l1 = t.th.length := hW.len.h1
        rw [hl1] at hx
        have hlt := isW_lt hx
        have hpl : d.pa.length = t.th.length := (hW.is.nums hW.len).1
        have hfl : d.fl.length = t.th.length := by rw [← hW.is.fl.len, hW.l4]
        obtain ⟨bp, op, hap, hbp, hcp, _⟩ := hW.is.pa.at_ (i := y.toNat) (by rw [hpl]; exact hlt.1)
        have hci := hcp y.toNat (by rw [hpl]; exact hlt.1)
        generalize d.pa[y.toNat]'(by rw [hpl]; exact hlt.1) = y1 at hci
        clear hcp
        have HSET := Lib.hid (fun w' (hb : Below w.heap.size w w') => ref21Set _ d y t.th.length w' (HOK.out w' hb) hx)
        have HWI := Lib.hid (fun (w' w'' : World) (a : Option Addr) (c : Nat) (hb : Below w.heap.size w w') (hb2 : Below w'.heap.size w' w'') (hr : RowI w' (.slice a t.th.length c) (setF d.fl y)) => (HOK.out w' hb).with_ (a := a) (c := c) hx (Below.refl _ _) hr |>.below hb2)
        have HLAW := Lib.hid (hides_law (t := t) (fl := d.fl) (ch := d.ch) (nx := d.nx) (y := y1) hfl hx)
        clear hW
        obtain ⟨hx1, hx2, hx3⟩ := hlt
        unfold worldV worldC withQ at HSET
        dsimp only at HSET hap
        subst hap
        subst hl1
        go_wp2_with fail
        refine (HSET.out _ HTW.out.bl).mono ?_
        rintro e w5 ⟨ra, rc, rfl, hrow, hb5⟩
        as_aux_lemma =>
          have hnew := HTW.out.below hb5
          clear kt0 kt1 kt2 kt3 kt4 kt5 kt6 kt7 kt8 kt9 kt10 kt11 kt12 kt13 kt14
          clear b0 b1 b2 b3 b4 b5 b6 b7 b8 b9 bA bB bC
          clear HTWt HTWw
          clear HTW
          have HTW := Lib.hid (hnew)
          have HTWt := Lib.hid HTW.out.bt
          have HTWw := Lib.hid HTW.out.bw
          have kt0 := HTWt.out.cell 0
          have kt1 := HTWt.out.cell 1
          have kt2 := HTWt.out.cell 2
          have kt3 := HTWt.out.cell 3
          have kt4 := HTWt.out.cell 4
          have kt5 := HTWt.out.cell 5
          have kt6 := HTWt.out.cell 6
          have kt7 := HTWt.out.cell 7
          have kt8 := HTWt.out.cell 8
          have kt9 := HTWt.out.cell 9
          have kt10 := HTWt.out.cell 10
          have kt11 := HTWt.out.cell 11
          have kt12 := HTWt.out.cell 12
          have kt13 := HTWt.out.cell 13
          have kt14 := HTWt.out.cell 14
          simp only [tabC, List.getElem?_cons_zero, List.getElem?_cons_succ] at kt0 kt1 kt2 kt3 kt4 kt5 kt6 kt7 kt8 kt9 kt10 kt11 kt12 kt13 kt14
          have b0 := HTWw.out.cell 0
          have b1 := HTWw.out.cell 1
          have b2 := HTWw.out.cell 2
          have b3 := HTWw.out.cell 3
          have b4 := HTWw.out.cell 4
          have b5 := HTWw.out.cell 5
          have b6 := HTWw.out.cell 6
          have b7 := HTWw.out.cell 7
          have b8 := HTWw.out.cell 8
          have b9 := HTWw.out.cell 9
          have bA := HTWw.out.cell 10
          have bB := HTWw.out.cell 11
          have bC := HTWw.out.cell 12
          simp only [worldC, List.getElem?_cons_zero, List.getElem?_cons_succ] at b0 b1 b2 b3 b4 b5 b6 b7 b8 b9 bA bB bC
          clear hnew
          have HB5 : Hid (Below w.heap.size w w5) := Lib.hid HTW.out.bl
          have HWOKh := Lib.hid (fun w' hb => HWI.out w5 w' ra rc HB5.out hb hrow)
          try dsimp only at HWOKh
          have HLh := Lib.hid (fun i w' (hb : Below w5.heap.size w5 w') => listC x t _ _ t.th.length i w' (HTB.out w' (bl_then HB5.out hb)) (HWOKh.out w' hb) HTX.out)
          have HLIh := Lib.hid (fun i w' (hb : Below w5.heap.size w5 w') => ref24Listed _ _ i t.th.length w' (HWOKh.out w' hb))
          unfold tabV worldV worldC tabC mkS at HLh
          unfold worldV worldC at HLIh
          try dsimp only at HLh
          try dsimp only at HLIh
          clear hrow hb5
          have HH : Hid (BK _ w5.heap.size [.slice a0 l0 c0, .slice (some ⟨bp, op, none⟩) t.th.length c1, .slice a2 l2 c2, .slice a3 l3 c3, .slice ra l4 rc, .slice a5 l5 c5, .slice a6 l6 c6, .int .u64 s, .int .i64 sc, .int .i64 tu, .int .i64 ov, .int .i64 it, .int .i64 go] 34) := Lib.hid (BK.new w5 [.slice a0 l0 c0, .slice (some ⟨bp, op, none⟩) t.th.length c1, .slice a2 l2 c2, .slice a3 l3 c3, .slice ra l4 rc, .slice a5 l5 c5, .slice a6 l6 c6, .int .u64 s, .int .i64 sc, .int .i64 tu, .int .i64 ov, .int .i64 it, .int .i64 go] 34)
          have HB6 : Hid (Below w5.heap.size w5 (w5.alloc (.cells ([.slice a0 l0 c0, .slice (some ⟨bp, op, none⟩) t.th.length c1, .slice a2 l2 c2, .slice a3 l3 c3, .slice ra l4 rc, .slice a5 l5 c5, .slice a6 l6 c6, .int .u64 s, .int .i64 sc, .int .i64 tu, .int .i64 ov, .int .i64 it, .int .i64 go] : List Value).toArray 34))) := Lib.hid (bl_a (Below.refl _ _) _)
          go_wp2_with fail
          generalize hWf : w5.alloc _ = Wf at HH HB6 ⊢
          clear hWf
          have hnew := HTW.out.below HB6.out
          clear kt0 kt1 kt2 kt3 kt4 kt5 kt6 kt7 kt8 kt9 kt10 kt11 kt12 kt13 kt14
          clear b0 b1 b2 b3 b4 b5 b6 b7 b8 b9 bA bB bC
          clear HTWt HTWw
          clear HTW
          have HTW := Lib.hid (hnew)
          have HTWt := Lib.hid HTW.out.bt
          have HTWw := Lib.hid HTW.out.bw
          have kt0 := HTWt.out.cell 0
          have kt1 := HTWt.out.cell 1
          have kt2 := HTWt.out.cell 2
          have kt3 := HTWt.out.cell 3
          have kt4 := HTWt.out.cell 4
          have kt5 := HTWt.out.cell 5
          have kt6 := HTWt.out.cell 6
          have kt7 := HTWt.out.cell 7
          have kt8 := HTWt.out.cell 8
          have kt9 := HTWt.out.cell 9
          have kt10 := HTWt.out.cell 10
          have kt11 := HTWt.out.cell 11
          have kt12 := HTWt.out.cell 12
          have kt13 := HTWt.out.cell 13
          have kt14 := HTWt.out.cell 14
          simp only [tabC, List.getElem?_cons_zero, List.getElem?_cons_succ] at kt0 kt1 kt2 kt3 kt4 kt5 kt6 kt7 kt8 kt9 kt10 kt11 kt12 kt13 kt14
          have b0 := HTWw.out.cell 0
          have b1 := HTWw.out.cell 1
          have b2 := HTWw.out.cell 2
          have b3 := HTWw.out.cell 3
          have b4 := HTWw.out.cell 4
          have b5 := HTWw.out.cell 5
          have b6 := HTWw.out.cell 6
          have b7 := HTWw.out.cell 7
          have b8 := HTWw.out.cell 8
          have b9 := HTWw.out.cell 9
          have bA := HTWw.out.cell 10
          have bB := HTWw.out.cell 11
          have bC := HTWw.out.cell 12
          simp only [worldC, List.getElem?_cons_zero, List.getElem?_cons_succ] at b0 b1 b2 b3 b4 b5 b6 b7 b8 b9 bA bB bC
          clear hnew
          have h0 := HH.out.cell 0
          have h1 := HH.out.cell 1
          have h2 := HH.out.cell 2
          have h3 := HH.out.cell 3
          have h4 := HH.out.cell 4
          have h5 := HH.out.cell 5
          have h6 := HH.out.cell 6
          have h7 := HH.out.cell 7
          have h8 := HH.out.cell 8
          have h9 := HH.out.cell 9
          have hA := HH.out.cell 10
          have hB := HH.out.cell 11
          have hC := HH.out.cell 12
          simp only [List.getElem?_cons_zero, List.getElem?_cons_succ] at h0 h1 h2 h3 h4 h5 h6 h7 h8 h9 hA hB hC
          have hz0 : w.heap.size < Wf.heap.size := HTW.out.bt.lt
          have hz1 : w.heap.size + 1 < Wf.heap.size := HTW.out.bw.lt
          have hz2 : w5.heap.size < Wf.heap.size := HH.out.lt
          refine region_text (fun w' => Below Wf.heap.size Wf w') (by kernel_rfl) (by kernel_rfl) ((Below.refl _ _).drew) (fun KK hKK => ?_)
          intro OPS
          try simp only [List.append]
          repeat (first
            | (refine' inText_val ?_ ?_ ?_ ?_
               rotate_left 2
               · rfl
               · (intro w' hS; obtain ⟨hcc, hff⟩ := bcell hS; go_simp; first | with_reducible rfl | (rw [if_neg (by omega)]; done) | (rw [if_neg (by omega)]; with_reducible rfl) | skip)
               · (simp only [Act.put, List.setIfInBounds_toArray, List.set_cons_zero, List.set_cons_succ]; with_reducible rfl))
            | (refine' inText_call ?_ ?_ ?_ ?_ ?_
               rotate_left 4
               · rfl
               · (intro w' hS; obtain ⟨hcc, hff⟩ := bcell hS; go_simp; exact ⟨rfl, rfl⟩)
               · (intro w' hS
                  first
                    | ((with_reducible refine (HL.out _ w' (bl_then HTW.out.bl hS)).mono ?_); exact fun e w'' h => ⟨h.1, bl_then hS h.2⟩)
                    | ((with_reducible refine (HLh.out _ w' (bl_then HB6.out hS)).mono ?_); exact fun e w'' h => ⟨h.1, bl_then hS h.2⟩))
               · (simp only [Act.put, List.setIfInBounds_toArray, List.set_cons_zero, List.set_cons_succ]; with_reducible rfl)))
          refine inText_nil (hKK.out _ (fun w6 hS => ?_))
          as_aux_lemma =>
            clear hKK
            clear OPS
            have HH := Lib.hid (HH.out.below hS)
            have HB6 := Lib.hid (bl_then HB6.out hS)
            have hnew := HTW.out.below hS
            clear kt0 kt1 kt2 kt3 kt4 kt5 kt6 kt7 kt8 kt9 kt10 kt11 kt12 kt13 kt14
            clear b0 b1 b2 b3 b4 b5 b6 b7 b8 b9 bA bB bC
            clear HTWt HTWw
            clear HTW
            have HTW := Lib.hid (hnew)
            have HTWt := Lib.hid HTW.out.bt
            have HTWw := Lib.hid HTW.out.bw
            have kt0 := HTWt.out.cell 0
            have kt1 := HTWt.out.cell 1
            have kt2 := HTWt.out.cell 2
            have kt3 := HTWt.out.cell 3
            have kt4 := HTWt.out.cell 4
            have kt5 := HTWt.out.cell 5
            have kt6 := HTWt.out.cell 6
            have kt7 := HTWt.out.cell 7
            have kt8 := HTWt.out.cell 8
            have kt9 := HTWt.out.cell 9
            have kt10 := HTWt.out.cell 10
            have kt11 := HTWt.out.cell 11
            have kt12 := HTWt.out.cell 12
            have kt13 := HTWt.out.cell 13
            have kt14 := HTWt.out.cell 14
            simp only [tabC, List.getElem?_cons_zero, List.getElem?_cons_succ] at kt0 kt1 kt2 kt3 kt4 kt5 kt6 kt7 kt8 kt9 kt10 kt11 kt12 kt13 kt14
            have b0 := HTWw.out.cell 0
            have b1 := HTWw.out.cell 1
            have b2 := HTWw.out.cell 2
            have b3 := HTWw.out.cell 3
            have b4 := HTWw.out.cell 4
            have b5 := HTWw.out.cell 5
            have b6 := HTWw.out.cell 6
            have b7 := HTWw.out.cell 7
            have b8 := HTWw.out.cell 8
            have b9 := HTWw.out.cell 9
            have bA := HTWw.out.cell 10
            have bB := HTWw.out.cell 11
            have bC := HTWw.out.cell 12
            simp only [worldC, List.getElem?_cons_zero, List.getElem?_cons_succ] at b0 b1 b2 b3 b4 b5 b6 b7 b8 b9 bA bB bC
            clear hnew
            clear hS hz0 hz1 hz2
            clear h0 h1 h2 h3 h4 h5 h6 h7 h8 h9 hA hB hC
            obtain ⟨N, HN⟩ : ∃ N, Hid (N = ((kidsW d.ch d.nx t.th.length y1).filter (showsL d.fl)).length) := ⟨_, Lib.hid rfl⟩
            obtain ⟨M, HM⟩ : ∃ M, Hid (M = ((kidsW d.ch d.nx t.th.length y1).filter (showsL (setF d.fl y))).length) := ⟨_, Lib.hid rfl⟩
            have HL1 := Lib.hid (fun w' (hb : Below w.heap.size w w') => (HLI.out y1 w' hb).mono (show ∀ e w'', RetIntsR w' _ e w'' → (∃ u, e = .returned u ∧ (∃ a c, u = .slice a N c) ∧ Below w'.heap.size w' w'') from fun e w'' ⟨v, he, ho, hbb⟩ => ⟨v, he, by obtain ⟨a, c, rfl⟩ := ho.shape; exact ⟨a, c, by rw [HN.out, ← shown_eq]⟩, hbb⟩))
            have HL2 := Lib.hid (fun w' (hb : Below w5.heap.size w5 w') => (HLIh.out y1 w' hb).mono (show ∀ e w'', RetIntsR w' _ e w'' → (∃ u, e = .returned u ∧ (∃ a c, u = .slice a M c) ∧ Below w'.heap.size w' w'') from fun e w'' ⟨v, he, ho, hbb⟩ => ⟨v, he, by obtain ⟨a, c, rfl⟩ := ho.shape; exact ⟨a, c, by rw [HM.out, ← shown_eq]⟩, hbb⟩))
            generalize hwas : rowT (titlesL t d.fl (kidsW d.ch d.nx t.th.length y1)) = was
            generalize his : rowT (titlesL t (setF d.fl y) (kidsW d.ch d.nx t.th.length y1)) = isn
            have HQ : Hid ((N = M → isn = was) ∧ M ≤ N ∧ (M < N → 0 < M → isn.length < was.length)) := Lib.hid (by
              obtain ⟨q1, q2, q3⟩ := HLAW.out
              rw [← HN.out, ← HM.out] at q1 q2 q3
              exact ⟨fun h => by rw [← his, ← hwas, q1 h], q2, fun h1 h2 => by rw [← his, ← hwas]; exact q3 h1 h2⟩)
            have HLE := Lib.hid (look_le (d := d) HF.out.tw (HOK.out _ HTW.out.bl).few)
            clear hwas his HLAW HL HLh HLI HLIh HN HM HWOKh HSET HWI HOK HTX
            have h0 := HH.out.cell 0
            have h1 := HH.out.cell 1
            have h2 := HH.out.cell 2
            have h3 := HH.out.cell 3
            have h4 := HH.out.cell 4
            have h5 := HH.out.cell 5
            have h6 := HH.out.cell 6
            have h7 := HH.out.cell 7
            have h8 := HH.out.cell 8
            have h9 := HH.out.cell 9
            have hA := HH.out.cell 10
            have hB := HH.out.cell 11
            have hC := HH.out.cell 12
            simp only [List.getElem?_cons_zero, List.getElem?_cons_succ] at h0 h1 h2 h3 h4 h5 h6 h7 h8 h9 hA hB hC
            have hz0 : w.heap.size < w6.heap.size := HTW.out.bt.lt
            have hz1 : w.heap.size + 1 < w6.heap.size := HTW.out.bw.lt
            have hz2 : w5.heap.size < w6.heap.size := HH.out.lt
            go_wp2_with fail
            refine region_gen (fun w' => Below w6.heap.size w6 w') (fun k u => match k with | 0 => u = .agg #[.slice a0 l0 c0, .slice (some ⟨bp, op, none⟩) t.th.length c1, .slice a2 l2 c2, .slice a3 l3 c3, .slice a4 l4 c4, .slice a5 l5 c5, .slice a6 l6 c6, .int .u64 s, .int .i64 sc, .int .i64 tu, .int .i64 ov, .int .i64 it, .int .i64 go] | 1 => u = .int .i64 y1 | 2 => ∃ a c, u = .slice a N c | 3 => u = .int .i64 N | 4 => u = .agg #[.slice a0 l0 c0, .slice (some ⟨bp, op, none⟩) t.th.length c1, .slice a2 l2 c2, .slice a3 l3 c3, .slice ra l4 rc, .slice a5 l5 c5, .slice a6 l6 c6, .int .u64 s, .int .i64 sc, .int .i64 tu, .int .i64 ov, .int .i64 it, .int .i64 go] | 5 => u = .int .i64 y1 | 6 => ∃ a c, u = .slice a M c | 7 => u = .int .i64 M | 8 => u = .int .i64 N | _ => u = .int .i64 M) (by kernel_rfl) (by kernel_rfl) ((Below.refl _ _).drew) (fun KK hKK => ?_)
            intro OPS
            try simp only [List.append]
            refine' inGen_val rfl ?_ ?_ ?_ ?_
            rotate_left 1
            · rfl
            · (intro w' hS; obtain ⟨hcc, hff⟩ := bcell hS; go_simp; first | with_reducible rfl | skip)
            · (simp only [Act.put, List.setIfInBounds_toArray, List.set_cons_zero, List.set_cons_succ]; with_reducible rfl)
            refine' inGen_val rfl ?_ ?_ ?_ ?_
            rotate_left 1
            · rfl
            · (intro w' hS; obtain ⟨hcc, hff⟩ := bcell hS; go_simp; first | with_reducible rfl | skip)
            · (simp only [Act.put, List.setIfInBounds_toArray, List.set_cons_zero, List.set_cons_succ]; with_reducible rfl)
            refine' inGen_any rfl ⟨.slice none _ 0, none, 0, rfl⟩ ?_ ?_ ?_ ?_
            rotate_left 2
            · rfl
            · (intro w' hS; obtain ⟨hcc, hff⟩ := bcell hS; go_simp; exact ⟨rfl, rfl⟩)
            · (intro w' hS
               (with_reducible refine (HL1.out w' (bl_then HTW.out.bl hS)).mono ?_)
               rintro e w'' ⟨u, he, hg, hbb⟩
               exact ⟨u, he, hg, bl_then hS hbb⟩)
            rintro u ⟨ua, uc, rfl⟩
            simp only [Act.put, List.setIfInBounds_toArray, List.set_cons_zero, List.set_cons_succ]
            refine' inGen_val rfl ?_ ?_ ?_ ?_
            rotate_left 1
            · rfl
            · (intro w' hS; obtain ⟨hcc, hff⟩ := bcell hS; go_simp; first | with_reducible rfl | skip)
            · (simp only [Act.put, List.setIfInBounds_toArray, List.set_cons_zero, List.set_cons_succ]; with_reducible rfl)
            refine' inGen_val rfl ?_ ?_ ?_ ?_
            rotate_left 1
            · rfl
            · (intro w' hS; obtain ⟨hcc, hff⟩ := bcell hS; go_simp; first | with_reducible rfl | skip)
            · (simp only [Act.put, List.setIfInBounds_toArray, List.set_cons_zero, List.set_cons_succ]; with_reducible rfl)
            refine' inGen_val rfl ?_ ?_ ?_ ?_
            rotate_left 1
            · rfl
            · (intro w' hS; obtain ⟨hcc, hff⟩ := bcell hS; go_simp; first | with_reducible rfl | skip)
            · (simp only [Act.put, List.setIfInBounds_toArray, List.set_cons_zero, List.set_cons_succ]; with_reducible rfl)
            refine' inGen_any rfl ⟨.slice none _ 0, none, 0, rfl⟩ ?_ ?_ ?_ ?_
            rotate_left 2
            · rfl
            · (intro w' hS; obtain ⟨hcc, hff⟩ := bcell hS; go_simp; exact ⟨rfl, rfl⟩)
            · (intro w' hS
               (with_reducible refine (HL2.out w' (bl_then HB6.out hS)).mono ?_)
               rintro e w'' ⟨u, he, hg, hbb⟩
               exact ⟨u, he, hg, bl_then hS hbb⟩)
            rintro u ⟨ua, uc, rfl⟩
            simp only [Act.put, List.setIfInBounds_toArray, List.set_cons_zero, List.set_cons_succ]
            refine' inGen_val rfl ?_ ?_ ?_ ?_
            rotate_left 1
            · rfl
            · (intro w' hS; obtain ⟨hcc, hff⟩ := bcell hS; go_simp; first | with_reducible rfl | skip)
            · (simp only [Act.put, List.setIfInBounds_toArray, List.set_cons_zero, List.set_cons_succ]; with_reducible rfl)
            refine' inGen_val rfl ?_ ?_ ?_ ?_
            rotate_left 1
            · rfl
            · (intro w' hS; obtain ⟨hcc, hff⟩ := bcell hS; go_simp; first | with_reducible rfl | skip)
            · (simp only [Act.put, List.setIfInBounds_toArray, List.set_cons_zero, List.set_cons_succ]; with_reducible rfl)
            refine' inGen_val rfl ?_ ?_ ?_ ?_
            rotate_left 1
            · rfl
            · (intro w' hS; obtain ⟨hcc, hff⟩ := bcell hS; go_simp; first | with_reducible rfl | skip)
            · (simp only [Act.put, List.setIfInBounds_toArray, List.set_cons_zero, List.set_cons_succ]; with_reducible rfl)
            refine inGen_nil (hKK.out _ (fun w7 hS => ?_))
            clear hKK OPS
            clear h0 h1 h2 h3 h4 h5 h6 h7 h8 h9 hA hB hC
            have hnew := HTW.out.below hS
            clear kt0 kt1 kt2 kt3 kt4 kt5 kt6 kt7 kt8 kt9 kt10 kt11 kt12 kt13 kt14
            clear b0 b1 b2 b3 b4 b5 b6 b7 b8 b9 bA bB bC
            clear HTWt HTWw
            clear HTW
            have HTW := Lib.hid (hnew)
            have HTWt := Lib.hid HTW.out.bt
            have HTWw := Lib.hid HTW.out.bw
            have kt0 := HTWt.out.cell 0
            have kt1 := HTWt.out.cell 1
            have kt2 := HTWt.out.cell 2
            have kt3 := HTWt.out.cell 3
            have kt4 := HTWt.out.cell 4
            have kt5 := HTWt.out.cell 5
            have kt6 := HTWt.out.cell 6
            have kt7 := HTWt.out.cell 7
            have kt8 := HTWt.out.cell 8
            have kt9 := HTWt.out.cell 9
            have kt10 := HTWt.out.cell 10
            have kt11 := HTWt.out.cell 11
            have kt12 := HTWt.out.cell 12
            have kt13 := HTWt.out.cell 13
            have kt14 := HTWt.out.cell 14
            simp only [tabC, List.getElem?_cons_zero, List.getElem?_cons_succ] at kt0 kt1 kt2 kt3 kt4 kt5 kt6 kt7 kt8 kt9 kt10 kt11 kt12 kt13 kt14
            have b0 := HTWw.out.cell 0
            have b1 := HTWw.out.cell 1
            have b2 := HTWw.out.cell 2
            have b3 := HTWw.out.cell 3
            have b4 := HTWw.out.cell 4
            have b5 := HTWw.out.cell 5
            have b6 := HTWw.out.cell 6
            have b7 := HTWw.out.cell 7
            have b8 := HTWw.out.cell 8
            have b9 := HTWw.out.cell 9
            have bA := HTWw.out.cell 10
            have bB := HTWw.out.cell 11
            have bC := HTWw.out.cell 12
            simp only [worldC, List.getElem?_cons_zero, List.getElem?_cons_succ] at b0 b1 b2 b3 b4 b5 b6 b7 b8 b9 bA bB bC
            clear hnew
            clear hS hz0 hz1 hz2
            obtain ⟨q1, q2, q3⟩ := HQ.out
            clear HQ
            rcases Nat.lt_or_ge M N with hlt | hge
            · clear q1 q2
              have e1 : ((N : Int) == (M : Int)) = false := by simp; omega
              have e2 : (M : Int) < (N : Int) := by omega
              by_cases hm0 : M = 0
              · subst hm0
                clear q3
                as_aux_lemma =>
                  go_wp2_with fail
                  refine (HK.out _ HTW.out.bl).mono ?_
                  rintro e w8 ⟨rfl, hb8⟩
                  have hnew := HTW.out.below hb8
                  clear kt0 kt1 kt2 kt3 kt4 kt5 kt6 kt7 kt8 kt9 kt10 kt11 kt12 kt13 kt14
                  clear b0 b1 b2 b3 b4 b5 b6 b7 b8 b9 bA bB bC
                  clear HTWt HTWw
                  clear HTW
                  have HTW := Lib.hid (hnew)
                  have HTWt := Lib.hid HTW.out.bt
                  have HTWw := Lib.hid HTW.out.bw
                  have kt0 := HTWt.out.cell 0
                  have kt1 := HTWt.out.cell 1
                  have kt2 := HTWt.out.cell 2
                  have kt3 := HTWt.out.cell 3
                  have kt4 := HTWt.out.cell 4
                  have kt5 := HTWt.out.cell 5
                  have kt6 := HTWt.out.cell 6
                  have kt7 := HTWt.out.cell 7
                  have kt8 := HTWt.out.cell 8
                  have kt9 := HTWt.out.cell 9
                  have kt10 := HTWt.out.cell 10
                  have kt11 := HTWt.out.cell 11
                  have kt12 := HTWt.out.cell 12
                  have kt13 := HTWt.out.cell 13
                  have kt14 := HTWt.out.cell 14
                  simp only [tabC, List.getElem?_cons_zero, List.getElem?_cons_succ] at kt0 kt1 kt2 kt3 kt4 kt5 kt6 kt7 kt8 kt9 kt10 kt11 kt12 kt13 kt14
                  have b0 := HTWw.out.cell 0
                  have b1 := HTWw.out.cell 1
                  have b2 := HTWw.out.cell 2
                  have b3 := HTWw.out.cell 3
                  have b4 := HTWw.out.cell 4
                  have b5 := HTWw.out.cell 5
                  have b6 := HTWw.out.cell 6
                  have b7 := HTWw.out.cell 7
                  have b8 := HTWw.out.cell 8
                  have b9 := HTWw.out.cell 9
                  have bA := HTWw.out.cell 10
                  have bB := HTWw.out.cell 11
                  have bC := HTWw.out.cell 12
                  simp only [worldC, List.getElem?_cons_zero, List.getElem?_cons_succ] at b0 b1 b2 b3 b4 b5 b6 b7 b8 b9 bA bB bC
                  clear hnew
                  clear hb8 HK
                  obtain ⟨ls, hls⟩ := look_end t d t.th.length
                  have hll := HLE.out
                  have HDK := Lib.hid (fun h => look_dark (t := t) (d := d) (n := t.th.length) h)
                  rw [hls] at HDK hll
                  rw [hls]
                  clear hls HLE
                  rw [List.length_append] at hll
                  have hwl : wrap64 (ls.length : Int) = (ls.length : Int) := IntWalk.wrap64_in _ (by omega)
                  have hby : ∀ h, ((⟨(ls ++ [10]).toArray⟩ : ByteArray)[ls.length]'h) = 10 := fun h => by
                    show (ls ++ [10]).toArray[ls.length]'_ = 10
                    simp
                  generalize litB d t.th.length = lit at HDK HT
                  have hne : List.isEmpty (ls ++ [10]) = false := by simp
                  go_wp2_with fail
                  refine (HT.out _ HTW.out.bl).mono ?_
                  rintro e wA ⟨rfl, hbA⟩
                  have hnew := HTW.out.below hbA
                  clear kt0 kt1 kt2 kt3 kt4 kt5 kt6 kt7 kt8 kt9 kt10 kt11 kt12 kt13 kt14
                  clear b0 b1 b2 b3 b4 b5 b6 b7 b8 b9 bA bB bC
                  clear HTWt HTWw
                  clear HTW
                  have HTW := Lib.hid (hnew)
                  have HTWt := Lib.hid HTW.out.bt
                  have HTWw := Lib.hid HTW.out.bw
                  have kt0 := HTWt.out.cell 0
                  have kt1 := HTWt.out.cell 1
                  have kt2 := HTWt.out.cell 2
                  have kt3 := HTWt.out.cell 3
                  have kt4 := HTWt.out.cell 4
                  have kt5 := HTWt.out.cell 5
                  have kt6 := HTWt.out.cell 6
                  have kt7 := HTWt.out.cell 7
                  have kt8 := HTWt.out.cell 8
                  have kt9 := HTWt.out.cell 9
                  have kt10 := HTWt.out.cell 10
                  have kt11 := HTWt.out.cell 11
                  have kt12 := HTWt.out.cell 12
                  have kt13 := HTWt.out.cell 13
                  have kt14 := HTWt.out.cell 14
                  simp only [tabC, List.getElem?_cons_zero, List.getElem?_cons_succ] at kt0 kt1 kt2 kt3 kt4 kt5 kt6 kt7 kt8 kt9 kt10 kt11 kt12 kt13 kt14
                  have b0 := HTWw.out.cell 0
                  have b1 := HTWw.out.cell 1
                  have b2 := HTWw.out.cell 2
                  have b3 := HTWw.out.cell 3
                  have b4 := HTWw.out.cell 4
                  have b5 := HTWw.out.cell 5
                  have b6 := HTWw.out.cell 6
                  have b7 := HTWw.out.cell 7
                  have b8 := HTWw.out.cell 8
                  have b9 := HTWw.out.cell 9
                  have bA := HTWw.out.cell 10
                  have bB := HTWw.out.cell 11
                  have bC := HTWw.out.cell 12
                  simp only [worldC, List.getElem?_cons_zero, List.getElem?_cons_succ] at b0 b1 b2 b3 b4 b5 b6 b7 b8 b9 bA bB bC
                  clear hnew
                  clear hbA
                  cases lit with
                  | true =>
                    as_aux_lemma =>
                      go_wp2_with fail
                      refine (HA.out _ HTW.out.bl).mono ?_
                      rintro e w9 ⟨rfl, hb9⟩
                      have HB9 := Lib.hid (bl_then HTW.out.bl hb9)
                      clear hb9
                      clear kt0 kt1 kt2 kt3 kt4 kt5 kt6 kt7 kt8 kt9 kt10 kt11 kt12 kt13 kt14
                      clear b0 b1 b2 b3 b4 b5 b6 b7 b8 b9 bA bB bC
                      clear HTWt HTWw
                      go_wp2_with fail
                      go_ret
                      first | exact ⟨rfl, HB9.out⟩ | exact ⟨congrArg (fun b => Ending.returned (.bool b)) (by simp : (!List.isEmpty (ls ++ [10])) = true), HB9.out⟩
                  | false =>
                    as_aux_lemma =>
                      have hdk : ls = [73, 116, 32, 105, 115, 32, 100, 97, 114, 107, 46] := List.append_cancel_right (bs := [10]) (HDK.out rfl)
                      subst hdk
                      clear hne hby hwl hll
                      go_wp2_with fail
                      refine (HA.out _ HTW.out.bl).mono ?_
                      rintro e w9 ⟨rfl, hb9⟩
                      have HB9 := Lib.hid (bl_then HTW.out.bl hb9)
                      clear hb9
                      clear kt0 kt1 kt2 kt3 kt4 kt5 kt6 kt7 kt8 kt9 kt10 kt11 kt12 kt13 kt14
                      clear b0 b1 b2 b3 b4 b5 b6 b7 b8 b9 bA bB bC
                      clear HTWt HTWw
                      go_wp2_with fail
                      go_ret
                      exact ⟨rfl, HB9.out⟩
              · have h1 := q3 hlt (by omega)
                have e3 : (0 : Int) < (M : Int) := by omega
                have e4 : ¬ ((was.length : Int) ≤ (isn.length : Int)) := by omega
                clear q3
                as_aux_lemma =>
                  go_wp2_with fail
                  refine (HK.out _ HTW.out.bl).mono ?_
                  rintro e w8 ⟨rfl, hb8⟩
                  have hnew := HTW.out.below hb8
                  clear kt0 kt1 kt2 kt3 kt4 kt5 kt6 kt7 kt8 kt9 kt10 kt11 kt12 kt13 kt14
                  clear b0 b1 b2 b3 b4 b5 b6 b7 b8 b9 bA bB bC
                  clear HTWt HTWw
                  clear HTW
                  have HTW := Lib.hid (hnew)
                  have HTWt := Lib.hid HTW.out.bt
                  have HTWw := Lib.hid HTW.out.bw
                  have kt0 := HTWt.out.cell 0
                  have kt1 := HTWt.out.cell 1
                  have kt2 := HTWt.out.cell 2
                  have kt3 := HTWt.out.cell 3
                  have kt4 := HTWt.out.cell 4
                  have kt5 := HTWt.out.cell 5
                  have kt6 := HTWt.out.cell 6
                  have kt7 := HTWt.out.cell 7
                  have kt8 := HTWt.out.cell 8
                  have kt9 := HTWt.out.cell 9
                  have kt10 := HTWt.out.cell 10
                  have kt11 := HTWt.out.cell 11
                  have kt12 := HTWt.out.cell 12
                  have kt13 := HTWt.out.cell 13
                  have kt14 := HTWt.out.cell 14
                  simp only [tabC, List.getElem?_cons_zero, List.getElem?_cons_succ] at kt0 kt1 kt2 kt3 kt4 kt5 kt6 kt7 kt8 kt9 kt10 kt11 kt12 kt13 kt14
                  have b0 := HTWw.out.cell 0
                  have b1 := HTWw.out.cell 1
                  have b2 := HTWw.out.cell 2
                  have b3 := HTWw.out.cell 3
                  have b4 := HTWw.out.cell 4
                  have b5 := HTWw.out.cell 5
                  have b6 := HTWw.out.cell 6
                  have b7 := HTWw.out.cell 7
                  have b8 := HTWw.out.cell 8
                  have b9 := HTWw.out.cell 9
                  have bA := HTWw.out.cell 10
                  have bB := HTWw.out.cell 11
                  have bC := HTWw.out.cell 12
                  simp only [worldC, List.getElem?_cons_zero, List.getElem?_cons_succ] at b0 b1 b2 b3 b4 b5 b6 b7 b8 b9 bA bB bC
                  clear hnew
                  clear hb8 HK
                  obtain ⟨ls, hls⟩ := look_end t d t.th.length
                  have hll := HLE.out
                  have HDK := Lib.hid (fun h => look_dark (t := t) (d := d) (n := t.th.length) h)
                  rw [hls] at HDK hll
                  rw [hls]
                  clear hls HLE
                  rw [List.length_append] at hll
                  have hwl : wrap64 (ls.length : Int) = (ls.length : Int) := IntWalk.wrap64_in _ (by omega)
                  have hby : ∀ h, ((⟨(ls ++ [10]).toArray⟩ : ByteArray)[ls.length]'h) = 10 := fun h => by
                    show (ls ++ [10]).toArray[ls.length]'_ = 10
                    simp
                  generalize litB d t.th.length = lit at HDK HT
                  have hne : List.isEmpty (ls ++ [10]) = false := by simp
                  go_wp2_with fail
                  refine (HT.out _ HTW.out.bl).mono ?_
                  rintro e wA ⟨rfl, hbA⟩
                  have hnew := HTW.out.below hbA
                  clear kt0 kt1 kt2 kt3 kt4 kt5 kt6 kt7 kt8 kt9 kt10 kt11 kt12 kt13 kt14
                  clear b0 b1 b2 b3 b4 b5 b6 b7 b8 b9 bA bB bC
                  clear HTWt HTWw
                  clear HTW
                  have HTW := Lib.hid (hnew)
                  have HTWt := Lib.hid HTW.out.bt
                  have HTWw := Lib.hid HTW.out.bw
                  have kt0 := HTWt.out.cell 0
                  have kt1 := HTWt.out.cell 1
                  have kt2 := HTWt.out.cell 2
                  have kt3 := HTWt.out.cell 3
                  have kt4 := HTWt.out.cell 4
                  have kt5 := HTWt.out.cell 5
                  have kt6 := HTWt.out.cell 6
                  have kt7 := HTWt.out.cell 7
                  have kt8 := HTWt.out.cell 8
                  have kt9 := HTWt.out.cell 9
                  have kt10 := HTWt.out.cell 10
                  have kt11 := HTWt.out.cell 11
                  have kt12 := HTWt.out.cell 12
                  have kt13 := HTWt.out.cell 13
                  have kt14 := HTWt.out.cell 14
                  simp only [tabC, List.getElem?_cons_zero, List.getElem?_cons_succ] at kt0 kt1 kt2 kt3 kt4 kt5 kt6 kt7 kt8 kt9 kt10 kt11 kt12 kt13 kt14
                  have b0 := HTWw.out.cell 0
                  have b1 := HTWw.out.cell 1
                  have b2 := HTWw.out.cell 2
                  have b3 := HTWw.out.cell 3
                  have b4 := HTWw.out.cell 4
                  have b5 := HTWw.out.cell 5
                  have b6 := HTWw.out.cell 6
                  have b7 := HTWw.out.cell 7
                  have b8 := HTWw.out.cell 8
                  have b9 := HTWw.out.cell 9
                  have bA := HTWw.out.cell 10
                  have bB := HTWw.out.cell 11
                  have bC := HTWw.out.cell 12
                  simp only [worldC, List.getElem?_cons_zero, List.getElem?_cons_succ] at b0 b1 b2 b3 b4 b5 b6 b7 b8 b9 bA bB bC
                  clear hnew
                  clear hbA
                  cases lit with
                  | true =>
                    as_aux_lemma =>
                      go_wp2_with fail
                      refine (HA.out _ HTW.out.bl).mono ?_
                      rintro e w9 ⟨rfl, hb9⟩
                      have HB9 := Lib.hid (bl_then HTW.out.bl hb9)
                      clear hb9
                      clear kt0 kt1 kt2 kt3 kt4 kt5 kt6 kt7 kt8 kt9 kt10 kt11 kt12 kt13 kt14
                      clear b0 b1 b2 b3 b4 b5 b6 b7 b8 b9 bA bB bC
                      clear HTWt HTWw
                      go_wp2_with fail
                      go_ret
                      first | exact ⟨rfl, HB9.out⟩ | exact ⟨congrArg (fun b => Ending.returned (.bool b)) (by simp : (!List.isEmpty (ls ++ [10])) = true), HB9.out⟩
                  | false =>
                    as_aux_lemma =>
                      have hdk : ls = [73, 116, 32, 105, 115, 32, 100, 97, 114, 107, 46] := List.append_cancel_right (bs := [10]) (HDK.out rfl)
                      subst hdk
                      clear hne hby hwl hll
                      go_wp2_with fail
                      refine (HA.out _ HTW.out.bl).mono ?_
                      rintro e w9 ⟨rfl, hb9⟩
                      have HB9 := Lib.hid (bl_then HTW.out.bl hb9)
                      clear hb9
                      clear kt0 kt1 kt2 kt3 kt4 kt5 kt6 kt7 kt8 kt9 kt10 kt11 kt12 kt13 kt14
                      clear b0 b1 b2 b3 b4 b5 b6 b7 b8 b9 bA bB bC
                      clear HTWt HTWw
                      go_wp2_with fail
                      go_ret
                      exact ⟨rfl, HB9.out⟩
            · obtain rfl : N = M := by omega
              obtain rfl := q1 rfl
              clear q1 q2 q3 hge
              as_aux_lemma =>
                go_wp2_with fail
                refine (HK.out _ HTW.out.bl).mono ?_
                rintro e w8 ⟨rfl, hb8⟩
                have hnew := HTW.out.below hb8
                clear kt0 kt1 kt2 kt3 kt4 kt5 kt6 kt7 kt8 kt9 kt10 kt11 kt12 kt13 kt14
                clear b0 b1 b2 b3 b4 b5 b6 b7 b8 b9 bA bB bC
                clear HTWt HTWw
                clear HTW
                have HTW := Lib.hid (hnew)
                have HTWt := Lib.hid HTW.out.bt
                have HTWw := Lib.hid HTW.out.bw
                have kt0 := HTWt.out.cell 0
                have kt1 := HTWt.out.cell 1
                have kt2 := HTWt.out.cell 2
                have kt3 := HTWt.out.cell 3
                have kt4 := HTWt.out.cell 4
                have kt5 := HTWt.out.cell 5
                have kt6 := HTWt.out.cell 6
                have kt7 := HTWt.out.cell 7
                have kt8 := HTWt.out.cell 8
                have kt9 := HTWt.out.cell 9
                have kt10 := HTWt.out.cell 10
                have kt11 := HTWt.out.cell 11
                have kt12 := HTWt.out.cell 12
                have kt13 := HTWt.out.cell 13
                have kt14 := HTWt.out.cell 14
                simp only [tabC, List.getElem?_cons_zero, List.getElem?_cons_succ] at kt0 kt1 kt2 kt3 kt4 kt5 kt6 kt7 kt8 kt9 kt10 kt11 kt12 kt13 kt14
                have b0 := HTWw.out.cell 0
                have b1 := HTWw.out.cell 1
                have b2 := HTWw.out.cell 2
                have b3 := HTWw.out.cell 3
                have b4 := HTWw.out.cell 4
                have b5 := HTWw.out.cell 5
                have b6 := HTWw.out.cell 6
                have b7 := HTWw.out.cell 7
                have b8 := HTWw.out.cell 8
                have b9 := HTWw.out.cell 9
                have bA := HTWw.out.cell 10
                have bB := HTWw.out.cell 11
                have bC := HTWw.out.cell 12
                simp only [worldC, List.getElem?_cons_zero, List.getElem?_cons_succ] at b0 b1 b2 b3 b4 b5 b6 b7 b8 b9 bA bB bC
                clear hnew
                clear hb8 HK
                obtain ⟨ls, hls⟩ := look_end t d t.th.length
                have hll := HLE.out
                have HDK := Lib.hid (fun h => look_dark (t := t) (d := d) (n := t.th.length) h)
                rw [hls] at HDK hll
                rw [hls]
                clear hls HLE
                rw [List.length_append] at hll
                have hwl : wrap64 (ls.length : Int) = (ls.length : Int) := IntWalk.wrap64_in _ (by omega)
                have hby : ∀ h, ((⟨(ls ++ [10]).toArray⟩ : ByteArray)[ls.length]'h) = 10 := fun h => by
                  show (ls ++ [10]).toArray[ls.length]'_ = 10
                  simp
                generalize litB d t.th.length = lit at HDK HT
                have hne : List.isEmpty (ls ++ [10]) = false := by simp
                go_wp2_with fail
                refine (HT.out _ HTW.out.bl).mono ?_
                rintro e wA ⟨rfl, hbA⟩
                have hnew := HTW.out.below hbA
                clear kt0 kt1 kt2 kt3 kt4 kt5 kt6 kt7 kt8 kt9 kt10 kt11 kt12 kt13 kt14
                clear b0 b1 b2 b3 b4 b5 b6 b7 b8 b9 bA bB bC
                clear HTWt HTWw
                clear HTW
                have HTW := Lib.hid (hnew)
                have HTWt := Lib.hid HTW.out.bt
                have HTWw := Lib.hid HTW.out.bw
                have kt0 := HTWt.out.cell 0
                have kt1 := HTWt.out.cell 1
                have kt2 := HTWt.out.cell 2
                have kt3 := HTWt.out.cell 3
                have kt4 := HTWt.out.cell 4
                have kt5 := HTWt.out.cell 5
                have kt6 := HTWt.out.cell 6
                have kt7 := HTWt.out.cell 7
                have kt8 := HTWt.out.cell 8
                have kt9 := HTWt.out.cell 9
                have kt10 := HTWt.out.cell 10
                have kt11 := HTWt.out.cell 11
                have kt12 := HTWt.out.cell 12
                have kt13 := HTWt.out.cell 13
                have kt14 := HTWt.out.cell 14
                simp only [tabC, List.getElem?_cons_zero, List.getElem?_cons_succ] at kt0 kt1 kt2 kt3 kt4 kt5 kt6 kt7 kt8 kt9 kt10 kt11 kt12 kt13 kt14
                have b0 := HTWw.out.cell 0
                have b1 := HTWw.out.cell 1
                have b2 := HTWw.out.cell 2
                have b3 := HTWw.out.cell 3
                have b4 := HTWw.out.cell 4
                have b5 := HTWw.out.cell 5
                have b6 := HTWw.out.cell 6
                have b7 := HTWw.out.cell 7
                have b8 := HTWw.out.cell 8
                have b9 := HTWw.out.cell 9
                have bA := HTWw.out.cell 10
                have bB := HTWw.out.cell 11
                have bC := HTWw.out.cell 12
                simp only [worldC, List.getElem?_cons_zero, List.getElem?_cons_succ] at b0 b1 b2 b3 b4 b5 b6 b7 b8 b9 bA bB bC
                clear hnew
                clear hbA
                cases lit with
                | true =>
                  as_aux_lemma =>
                    go_wp2_with fail
                    refine (HA.out _ HTW.out.bl).mono ?_
                    rintro e w9 ⟨rfl, hb9⟩
                    have HB9 := Lib.hid (bl_then HTW.out.bl hb9)
                    clear hb9
                    clear kt0 kt1 kt2 kt3 kt4 kt5 kt6 kt7 kt8 kt9 kt10 kt11 kt12 kt13 kt14
                    clear b0 b1 b2 b3 b4 b5 b6 b7 b8 b9 bA bB bC
                    clear HTWt HTWw
                    go_wp2_with fail
                    go_ret
                    first | exact ⟨rfl, HB9.out⟩ | exact ⟨congrArg (fun b => Ending.returned (.bool b)) (by simp : (!List.isEmpty (ls ++ [10])) = true), HB9.out⟩
                | false =>
                  as_aux_lemma =>
                    have hdk : ls = [73, 116, 32, 105, 115, 32, 100, 97, 114, 107, 46] := List.append_cancel_right (bs := [10]) (HDK.out rfl)
                    subst hdk
                    clear hne hby hwl hll
                    go_wp2_with fail
                    refine (HA.out _ HTW.out.bl).mono ?_
                    rintro e w9 ⟨rfl, hb9⟩
                    have HB9 := Lib.hid (bl_then HTW.out.bl hb9)
                    clear hb9
                    clear kt0 kt1 kt2 kt3 kt4 kt5 kt6 kt7 kt8 kt9 kt10 kt11 kt12 kt13 kt14
                    clear b0 b1 b2 b3 b4 b5 b6 b7 b8 b9 bA bB bC
                    clear HTWt HTWw
                    go_wp2_with fail
                    go_ret
                    exact ⟨rfl, HB9.out⟩
end Go.Proofs.YtjnpinfnpnohmaaDoor
