/- The walk of TellSees. -/
import Derived.Test.YtjnpinfnpnohmaaDoorSeen
import Derived.Test.YtjnpinfnpnohmaaDoorRef31
import Derived.Test.YtjnpinfnpnohmaaDoorRef29
import Derived.Test.YtjnpinfnpnohmaaDoorFits
import Derived.Test.YtjnpinfnpnohmaaDoorHall
namespace Go.Proofs.YtjnpinfnpnohmaaDoor
open Go.RowKit Go.PlainAid
set_option linter.unusedVariables false
set_option linter.unusedSimpArgs false

set_option maxRecDepth 100000 in
set_option maxHeartbeats 1000000 in
/-- A text stands in another one. -/
theorem holdsC (s p : ByteArray) (i0 : Nat) (w : World) (hs : s.size ≤ 1000000000) (hp : p.size ≤ 1000000000) (h0 : i0 + p.size ≤ s.size) (he : s.extract i0 (i0 + p.size) = p) :
    Calls Tryd.prog 27 #[.string s, .string p] w fun e w' => e = .returned (.bool true) ∧ w = w' := by
  have HE := Lib.hid he
  clear he
  go_enter Tryd.func27, Tryd.ntmps27
  go_wp2
  go_loop [5] (fun i => ∃ (k : Nat), i = .int .i64 k ∧ k ≤ i0) (fun i => i0 - (intOf i).toNat)
  case atStart => exact ⟨0, rfl, Nat.zero_le _⟩
  case round =>
    obtain ⟨k, rfl, hk⟩ := hrel
    have hle : (k : Int) + (p.size : Int) ≤ (s.size : Int) := by omega
    have hwr : wrap64 ((k : Int) + (p.size : Int)) = (k : Int) + (p.size : Int) := IntWalk.wrap64_in _ (by omega)
    have hnt : ((k : Int) + (p.size : Int)).toNat = k + p.size := by omega
    have hk0 : (0 : Int) ≤ (k : Int) := by omega
    have hk1 : (k : Int) ≤ (k : Int) + (p.size : Int) := by omega
    by_cases heq : (s.extract k (k + p.size)).toList = p.toList
    · have heb : ((s.extract k (k + p.size)).toList == p.toList) = true := by rw [heq]; simp
      clear heq
      go_wp2
      go_ret
      exact ⟨rfl, rfl⟩
    · have heb : ((s.extract k (k + p.size)).toList == p.toList) = false := by simp [heq]
      have hki : k < i0 := by
        rcases Nat.lt_or_ge k i0 with h | h
        · exact h
        · have : k = i0 := by omega
          subst this; exact absurd (congrArg ByteArray.toList HE.out) heq
      clear heq
      go_wp2
      go_round
      case rel => exact ⟨k + 1, by go_num, by omega⟩
      case measure => simp [intOf]; omega
theorem extract_mid (a b c : TxC) : (⟨(a ++ b ++ c).toArray⟩ : ByteArray).extract a.length (a.length + b.length) = ⟨b.toArray⟩ := by
  rw [Lib.extract_eq]
  simp [ByteArray.mk]
theorem look_head {t : TbC} {d : WdC} {n : Nat} (h : litB d n = true) : ∃ r, lookT t d n = titleT t (topOf d.pa n 1) ++ r := by
  unfold lookT linesT
  rw [if_pos h]
  simp only [List.append_assoc, List.singleton_append, List.cons_append, List.nil_append]
  generalize (match t.th[(topOf d.pa n 1).toNat]? with | some y => if y.tx = -1 then [] else [textT t y.tx] | none => []) ++ _ = l
  cases l with
  | nil => exact ⟨[10], by simp [joinL]⟩
  | cons a l => exact ⟨List.flatMap (fun s => [10] ++ s) (a :: l) ++ [10], by rw [joinL, List.append_assoc]⟩
theorem tail_mem {an co s : TxC} : ∀ {l : List TxC}, s ∈ l → ∃ p q, tailP an co l = p ++ s ++ q
  | [], h => by cases h
  | b :: l, h => by
    rw [tail_step]
    rcases List.mem_cons.1 h with rfl | h'
    · exact ⟨_, _, rfl⟩
    · obtain ⟨p, q, e⟩ := tail_mem (an := an) (co := co) h'
      exact ⟨(if l = [] then an else co) ++ b ++ p, q, by rw [e]; simp⟩
theorem row_mem {s : TxC} {l : List TxC} (h : s ∈ l) : ∃ p q, rowT l = p ++ s ++ q := by
  cases l with
  | nil => cases h
  | cons a l =>
    rcases List.mem_cons.1 h with rfl | h'
    · exact ⟨[], tailP anL coL l, rfl⟩
    · obtain ⟨p, q, e⟩ := tail_mem (an := anL) (co := coL) h'
      exact ⟨a ++ p, q, by rw [rowT, e]; simp⟩
theorem look_list {t : TbC} {d : WdC} {n : Nat} (h : litB d n = true) (hl : titlesL t d.fl (kidsW d.ch d.nx n (topOf d.pa n 1)) ≠ []) :
    ∃ p q, lookT t d n = p ++ rowT (titlesL t d.fl (kidsW d.ch d.nx n (topOf d.pa n 1))) ++ q := by
  unfold lookT linesT
  rw [if_pos h, if_neg hl, join_snoc]
  rw [if_neg (by simp)]
  generalize joinL [10] _ = X
  exact ⟨X ++ [10] ++ seeL, [46] ++ [10], by simp⟩
theorem holdsInf (s p : TxC) (w : World) (h : ∃ a c, s = a ++ p ++ c) (hs : s.length ≤ 1000000000) :
    Calls Tryd.prog 27 #[.string ⟨s.toArray⟩, .string ⟨p.toArray⟩] w fun e w' => e = .returned (.bool true) ∧ w = w' := by
  obtain ⟨a, c, rfl⟩ := h
  rw [List.length_append, List.length_append] at hs
  exact holdsC ⟨(a ++ p ++ c).toArray⟩ ⟨p.toArray⟩ a.length w (by show (a ++ p ++ c).toArray.size ≤ _; simp; omega) (by show p.toArray.size ≤ _; simp; omega) (by show a.length + p.toArray.size ≤ (a ++ p ++ c).toArray.size; simp) (extract_mid a p c)
set_option maxRecDepth 100000 in
set_option maxHeartbeats 8000000 in
theorem walkSees (x : TAd) (t : TbC) (q : Wv) (d : WdC) (w : World) (ht : TabIs w x t) (hw : WRd w q d) (htab : Lib.TabIs Tryd.prog w "internal/strconv.uint64pow10" .u64 Lib.pow10Tab) :
    Calls Tryd.prog 7 #[tabV x t, worldV q] w fun e w' => e = .returned (.bool true) ∧ Below w.heap.size w w' := by
  have hnew := Two.new x t q w
  obtain ⟨W0, hW0⟩ : ∃ W0, (w.alloc (.cells (tabC x t).toArray 28)).alloc (.cells (worldC q).toArray 34) = W0 := ⟨_, rfl⟩
  rw [hW0] at hnew
  have HFI := Lib.hid (fun w' (hb : Below w.heap.size w w') => refFits x t w' (ht.below hb))
  have HRI := Lib.hid (fun w' (hb : Below w.heap.size w w') (hf : FitsOk t) => refRight x t q d w' (ht.below hb) (hw.below hb) hf)
  have HA := Lib.hid (fun w' (hb : Below w.heap.size w w') => awake24 w' (tab_belowT htab hb))
  have HOK := Lib.hid (fun (hf : FitsOk t) (hr : RightOk t q d) w' (hb : Below w.heap.size w w') => hr.ok hf (hw.below hb))
  have HK := Lib.hid (fun (hf : FitsOk t) (hr : RightOk t q d) w' (hb : Below w.heap.size w w') => lookC x t q d t.th.length w' (ht.below hb) (hr.ok hf (hw.below hb)) hf.tw)
  have HT := Lib.hid (fun (hf : FitsOk t) (hr : RightOk t q d) w' (hb : Below w.heap.size w w') => litC x t q d t.th.length w' (hr.ok hf (hw.below hb)))
  have HHERE := Lib.hid (fun (hf : FitsOk t) (hr : RightOk t q d) w' (hb : Below w.heap.size w w') => hereC q d t.th.length w' (hr.ok hf (hw.below hb)))
  have HL := Lib.hid (fun (hf : FitsOk t) (hr : RightOk t q d) w' (hb : Below w.heap.size w w') => listC x t q d t.th.length (topOf d.pa t.th.length 1) w' (ht.below hb) (hr.ok hf (hw.below hb)) hf.tw.tx)
  have HTA := Lib.hid (fun i w' (hb : Below w.heap.size w w') => tellTitle x t i w' (ht.below hb))
  have HCH := Lib.hid (fun (hf : FitsOk t) (hr : RightOk t q d) w' (hb : Below w.heap.size w w') => childrenC q d (topOf d.pa t.th.length 1) t.th.length w' (hr.ok hf (hw.below hb)).is (hr.ok hf (hw.below hb)).len (hr.ok hf (hw.below hb)).pos (Nat.le_trans (hr.ok hf (hw.below hb)).few (by decide)))
  have HAT := Lib.hid (fun (hf : FitsOk t) (hr : RightOk t q d) c w' (hb : Below w.heap.size w w') => attrHas q d c 3 t.th.length w' (hr.ok hf (hw.below hb)) (by decide) (by decide))
  have HSE := Lib.hid (fun (hf : FitsOk t) (hr : RightOk t q d) y w' (hb : Below w.heap.size w w') hl hy hy1 hL => seesC x t q d t.th.length y w' (hr.ok hf (hw.below hb)) hl hy hy1 hL)
  clear ht hw htab
  have HTW := Lib.hid (hnew)
  have HTWt := Lib.hid HTW.out.bt
  have HTWw := Lib.hid HTW.out.bw
  have kt0 := HTWt.out.cell 0
  have kt1 := HTWt.out.cell 1
  have kt2 := HTWt.out.cell 2
  have kt3 := HTWt.out.cell 3
  have kt4 := HTWt.out.cell 4
  have kt5 := HTWt.out.cell 5
  have kt6 := HTWt.out.cell 6
  have kt7 := HTWt.out.cell 7
  have kt8 := HTWt.out.cell 8
  have kt9 := HTWt.out.cell 9
  have kt10 := HTWt.out.cell 10
  have kt11 := HTWt.out.cell 11
  have kt12 := HTWt.out.cell 12
  have kt13 := HTWt.out.cell 13
  have kt14 := HTWt.out.cell 14
  simp only [tabC, List.getElem?_cons_zero, List.getElem?_cons_succ] at kt0 kt1 kt2 kt3 kt4 kt5 kt6 kt7 kt8 kt9 kt10 kt11 kt12 kt13 kt14
  have b0 := HTWw.out.cell 0
  have b1 := HTWw.out.cell 1
  have b2 := HTWw.out.cell 2
  have b3 := HTWw.out.cell 3
  have b4 := HTWw.out.cell 4
  have b5 := HTWw.out.cell 5
  have b6 := HTWw.out.cell 6
  have b7 := HTWw.out.cell 7
  have b8 := HTWw.out.cell 8
  have b9 := HTWw.out.cell 9
  have bA := HTWw.out.cell 10
  have bB := HTWw.out.cell 11
  have bC := HTWw.out.cell 12
  simp only [worldC, List.getElem?_cons_zero, List.getElem?_cons_succ] at b0 b1 b2 b3 b4 b5 b6 b7 b8 b9 bA bB bC
  clear hnew
  unfold tabV worldV mkS at *
  by_cases h60 : (60 : Int) < (t.th.length : Int)
  · go_enter Tryd.func7, Tryd.ntmps7
    unfold worldC at hW0 ⊢
    unfold tabC at hW0 ⊢
    go_wp2_with fail
    clear hW0
    refine (HA.out _ HTW.out.bl).mono ?_
    rintro e w9 ⟨rfl, hb9⟩
    have HB9 := Lib.hid (bl_then HTW.out.bl hb9)
    clear hb9
    clear kt0 kt1 kt2 kt3 kt4 kt5 kt6 kt7 kt8 kt9 kt10 kt11 kt12 kt13 kt14
    clear b0 b1 b2 b3 b4 b5 b6 b7 b8 b9 bA bB bC
    clear HTWt HTWw
    go_wp2_with fail
    go_ret
    exact ⟨rfl, HB9.out⟩
  go_enter Tryd.func7, Tryd.ntmps7
  unfold worldC at HRI HL HK HT HHERE HCH HAT HSE hW0 ⊢
  unfold tabC at HFI HRI HL HK HT HTA HSE hW0 ⊢
  go_wp2_with fail
  clear hW0
  refine (HFI.out _ HTW.out.bl).mono ?_
  rintro e w1 ⟨bf, rfl, hbf, hb1⟩
  have HBF := Lib.hid hbf
  have hnew := HTW.out.below hb1
  clear hbf hb1
  clear kt0 kt1 kt2 kt3 kt4 kt5 kt6 kt7 kt8 kt9 kt10 kt11 kt12 kt13 kt14
  clear b0 b1 b2 b3 b4 b5 b6 b7 b8 b9 bA bB bC
  clear HTWt HTWw
  clear HTW HFI
  have HTW := Lib.hid (hnew)
  have HTWt := Lib.hid HTW.out.bt
  have HTWw := Lib.hid HTW.out.bw
  have kt0 := HTWt.out.cell 0
  have kt1 := HTWt.out.cell 1
  have kt2 := HTWt.out.cell 2
  have kt3 := HTWt.out.cell 3
  have kt4 := HTWt.out.cell 4
  have kt5 := HTWt.out.cell 5
  have kt6 := HTWt.out.cell 6
  have kt7 := HTWt.out.cell 7
  have kt8 := HTWt.out.cell 8
  have kt9 := HTWt.out.cell 9
  have kt10 := HTWt.out.cell 10
  have kt11 := HTWt.out.cell 11
  have kt12 := HTWt.out.cell 12
  have kt13 := HTWt.out.cell 13
  have kt14 := HTWt.out.cell 14
  simp only [tabC, List.getElem?_cons_zero, List.getElem?_cons_succ] at kt0 kt1 kt2 kt3 kt4 kt5 kt6 kt7 kt8 kt9 kt10 kt11 kt12 kt13 kt14
  have b0 := HTWw.out.cell 0
  have b1 := HTWw.out.cell 1
  have b2 := HTWw.out.cell 2
  have b3 := HTWw.out.cell 3
  have b4 := HTWw.out.cell 4
  have b5 := HTWw.out.cell 5
  have b6 := HTWw.out.cell 6
  have b7 := HTWw.out.cell 7
  have b8 := HTWw.out.cell 8
  have b9 := HTWw.out.cell 9
  have bA := HTWw.out.cell 10
  have bB := HTWw.out.cell 11
  have bC := HTWw.out.cell 12
  simp only [worldC, List.getElem?_cons_zero, List.getElem?_cons_succ] at b0 b1 b2 b3 b4 b5 b6 b7 b8 b9 bA bB bC
  clear hnew
  cases bf with
  | false =>
    go_wp2_with fail
    refine (HA.out _ HTW.out.bl).mono ?_
    rintro e w9 ⟨rfl, hb9⟩
    have HB9 := Lib.hid (bl_then HTW.out.bl hb9)
    clear hb9
    clear kt0 kt1 kt2 kt3 kt4 kt5 kt6 kt7 kt8 kt9 kt10 kt11 kt12 kt13 kt14
    clear b0 b1 b2 b3 b4 b5 b6 b7 b8 b9 bA bB bC
    clear HTWt HTWw
    go_wp2_with fail
    go_ret
    exact ⟨rfl, HB9.out⟩
  | true =>
    have HF := Lib.hid (HBF.out rfl)
    go_wp2_with fail
    refine (HRI.out _ HTW.out.bl HF.out).mono ?_
    rintro e w2 ⟨br, rfl, hbr, hb2⟩
    have HBR := Lib.hid hbr
    have hnew := HTW.out.below hb2
    clear hbr hb2
    clear kt0 kt1 kt2 kt3 kt4 kt5 kt6 kt7 kt8 kt9 kt10 kt11 kt12 kt13 kt14
    clear b0 b1 b2 b3 b4 b5 b6 b7 b8 b9 bA bB bC
    clear HTWt HTWw
    clear HTW HRI HBF
    have HTW := Lib.hid (hnew)
    have HTWt := Lib.hid HTW.out.bt
    have HTWw := Lib.hid HTW.out.bw
    have kt0 := HTWt.out.cell 0
    have kt1 := HTWt.out.cell 1
    have kt2 := HTWt.out.cell 2
    have kt3 := HTWt.out.cell 3
    have kt4 := HTWt.out.cell 4
    have kt5 := HTWt.out.cell 5
    have kt6 := HTWt.out.cell 6
    have kt7 := HTWt.out.cell 7
    have kt8 := HTWt.out.cell 8
    have kt9 := HTWt.out.cell 9
    have kt10 := HTWt.out.cell 10
    have kt11 := HTWt.out.cell 11
    have kt12 := HTWt.out.cell 12
    have kt13 := HTWt.out.cell 13
    have kt14 := HTWt.out.cell 14
    simp only [tabC, List.getElem?_cons_zero, List.getElem?_cons_succ] at kt0 kt1 kt2 kt3 kt4 kt5 kt6 kt7 kt8 kt9 kt10 kt11 kt12 kt13 kt14
    have b0 := HTWw.out.cell 0
    have b1 := HTWw.out.cell 1
    have b2 := HTWw.out.cell 2
    have b3 := HTWw.out.cell 3
    have b4 := HTWw.out.cell 4
    have b5 := HTWw.out.cell 5
    have b6 := HTWw.out.cell 6
    have b7 := HTWw.out.cell 7
    have b8 := HTWw.out.cell 8
    have b9 := HTWw.out.cell 9
    have bA := HTWw.out.cell 10
    have bB := HTWw.out.cell 11
    have bC := HTWw.out.cell 12
    simp only [worldC, List.getElem?_cons_zero, List.getElem?_cons_succ] at b0 b1 b2 b3 b4 b5 b6 b7 b8 b9 bA bB bC
    clear hnew
    cases br with
    | false =>
      go_wp2_with fail
      refine (HA.out _ HTW.out.bl).mono ?_
      rintro e w9 ⟨rfl, hb9⟩
      have HB9 := Lib.hid (bl_then HTW.out.bl hb9)
      clear hb9
      clear kt0 kt1 kt2 kt3 kt4 kt5 kt6 kt7 kt8 kt9 kt10 kt11 kt12 kt13 kt14
      clear b0 b1 b2 b3 b4 b5 b6 b7 b8 b9 bA bB bC
      clear HTWt HTWw
      go_wp2_with fail
      go_ret
      exact ⟨rfl, HB9.out⟩
    | true =>
      have HRO := Lib.hid (HBR.out rfl)
      have HL := Lib.hid (HL.out HF.out HRO.out)
      have HK := Lib.hid (HK.out HF.out HRO.out)
      have HT := Lib.hid (HT.out HF.out HRO.out)
      have HOK := Lib.hid (HOK.out HF.out HRO.out)
      have HHERE := Lib.hid (HHERE.out HF.out HRO.out)
      have HCH := Lib.hid (HCH.out HF.out HRO.out)
      have HAT := Lib.hid (HAT.out HF.out HRO.out)
      have HSE := Lib.hid (HSE.out HF.out HRO.out)
      go_wp2_with fail
      refine (HK.out _ HTW.out.bl).mono ?_
      rintro e w3 ⟨rfl, hb3⟩
      have hnew := HTW.out.below hb3
      clear kt0 kt1 kt2 kt3 kt4 kt5 kt6 kt7 kt8 kt9 kt10 kt11 kt12 kt13 kt14
      clear b0 b1 b2 b3 b4 b5 b6 b7 b8 b9 bA bB bC
      clear HTWt HTWw
      clear HTW
      have HTW := Lib.hid (hnew)
      have HTWt := Lib.hid HTW.out.bt
      have HTWw := Lib.hid HTW.out.bw
      have kt0 := HTWt.out.cell 0
      have kt1 := HTWt.out.cell 1
      have kt2 := HTWt.out.cell 2
      have kt3 := HTWt.out.cell 3
      have kt4 := HTWt.out.cell 4
      have kt5 := HTWt.out.cell 5
      have kt6 := HTWt.out.cell 6
      have kt7 := HTWt.out.cell 7
      have kt8 := HTWt.out.cell 8
      have kt9 := HTWt.out.cell 9
      have kt10 := HTWt.out.cell 10
      have kt11 := HTWt.out.cell 11
      have kt12 := HTWt.out.cell 12
      have kt13 := HTWt.out.cell 13
      have kt14 := HTWt.out.cell 14
      simp only [tabC, List.getElem?_cons_zero, List.getElem?_cons_succ] at kt0 kt1 kt2 kt3 kt4 kt5 kt6 kt7 kt8 kt9 kt10 kt11 kt12 kt13 kt14
      have b0 := HTWw.out.cell 0
      have b1 := HTWw.out.cell 1
      have b2 := HTWw.out.cell 2
      have b3 := HTWw.out.cell 3
      have b4 := HTWw.out.cell 4
      have b5 := HTWw.out.cell 5
      have b6 := HTWw.out.cell 6
      have b7 := HTWw.out.cell 7
      have b8 := HTWw.out.cell 8
      have b9 := HTWw.out.cell 9
      have bA := HTWw.out.cell 10
      have bB := HTWw.out.cell 11
      have bC := HTWw.out.cell 12
      simp only [worldC, List.getElem?_cons_zero, List.getElem?_cons_succ] at b0 b1 b2 b3 b4 b5 b6 b7 b8 b9 bA bB bC
      clear hnew
      clear hb3
      go_wp2_with fail
      refine (HT.out _ HTW.out.bl).mono ?_
      rintro e w4 ⟨rfl, hb4⟩
      have hnew := HTW.out.below hb4
      clear kt0 kt1 kt2 kt3 kt4 kt5 kt6 kt7 kt8 kt9 kt10 kt11 kt12 kt13 kt14
      clear b0 b1 b2 b3 b4 b5 b6 b7 b8 b9 bA bB bC
      clear HTWt HTWw
      clear HTW
      have HTW := Lib.hid (hnew)
      have HTWt := Lib.hid HTW.out.bt
      have HTWw := Lib.hid HTW.out.bw
      have kt0 := HTWt.out.cell 0
      have kt1 := HTWt.out.cell 1
      have kt2 := HTWt.out.cell 2
      have kt3 := HTWt.out.cell 3
      have kt4 := HTWt.out.cell 4
      have kt5 := HTWt.out.cell 5
      have kt6 := HTWt.out.cell 6
      have kt7 := HTWt.out.cell 7
      have kt8 := HTWt.out.cell 8
      have kt9 := HTWt.out.cell 9
      have kt10 := HTWt.out.cell 10
      have kt11 := HTWt.out.cell 11
      have kt12 := HTWt.out.cell 12
      have kt13 := HTWt.out.cell 13
      have kt14 := HTWt.out.cell 14
      simp only [tabC, List.getElem?_cons_zero, List.getElem?_cons_succ] at kt0 kt1 kt2 kt3 kt4 kt5 kt6 kt7 kt8 kt9 kt10 kt11 kt12 kt13 kt14
      have b0 := HTWw.out.cell 0
      have b1 := HTWw.out.cell 1
      have b2 := HTWw.out.cell 2
      have b3 := HTWw.out.cell 3
      have b4 := HTWw.out.cell 4
      have b5 := HTWw.out.cell 5
      have b6 := HTWw.out.cell 6
      have b7 := HTWw.out.cell 7
      have b8 := HTWw.out.cell 8
      have b9 := HTWw.out.cell 9
      have bA := HTWw.out.cell 10
      have bB := HTWw.out.cell 11
      have bC := HTWw.out.cell 12
      simp only [worldC, List.getElem?_cons_zero, List.getElem?_cons_succ] at b0 b1 b2 b3 b4 b5 b6 b7 b8 b9 bA bB bC
      clear hnew
      clear hb4
      cases hlit : litB d t.th.length with
      | false =>
        rw [look_dark hlit]
        unfold darkL
        go_wp2_with fail
        refine (HA.out _ HTW.out.bl).mono ?_
        rintro e w9 ⟨rfl, hb9⟩
        have HB9 := Lib.hid (bl_then HTW.out.bl hb9)
        clear hb9
        clear kt0 kt1 kt2 kt3 kt4 kt5 kt6 kt7 kt8 kt9 kt10 kt11 kt12 kt13 kt14
        clear b0 b1 b2 b3 b4 b5 b6 b7 b8 b9 bA bB bC
        clear HTWt HTWw
        go_wp2_with fail
        go_ret
        exact ⟨rfl, HB9.out⟩
      | true =>
        have HLH := Lib.hid (look_head (t := t) hlit)
        have HLE := Lib.hid (look_le (d := d) HF.out.tw (HOK.out _ HTW.out.bl).few)
        have HTL := Lib.hid (title_le HF.out.tw.tx)
        have HOKw := HOK.out _ HTW.out.bl
        have HRL : Hid ((reachV d t.th.length (topOf d.pa t.th.length 1)).length ≤ 1000000) := Lib.hid (Nat.le_trans (reach_len HOKw.nest HOKw.pos (by have := HRO.out.nest.dup; rwa [HRO.out.h1] at this) _ _ _ _) (Nat.le_trans HOKw.few (by decide)))
        have HRK : Hid (∀ c, c ∈ kidsW d.ch d.nx t.th.length (topOf d.pa t.th.length 1) → hasB d.fl t.th.length c 3 = false → c ∈ reachV d t.th.length (topOf d.pa t.th.length 1)) := Lib.hid (fun c hc hh => by
          unfold reachV
          obtain ⟨m, hm⟩ : ∃ m, t.th.length = m + 1 := ⟨t.th.length - 1, by have := HOKw.pos; omega⟩
          rw [hm] at hc hh ⊢
          exact reach_kid m hc hh)
        have HSE := Lib.hid (fun c w' (hb : Below w.heap.size w w') (hc : c ∈ kidsW d.ch d.nx t.th.length (topOf d.pa t.th.length 1)) (hh : hasB d.fl t.th.length c 3 = false) (h1 : c ≠ 1) => HSE.out c w' hb hlit (HRK.out c hc hh) h1 HRL.out)
        have HTM : Hid (∀ c, c ∈ kidsW d.ch d.nx t.th.length (topOf d.pa t.th.length 1) → hasB d.fl t.th.length c 3 = false → c ≠ 1 → titleT t c ∈ titlesL t d.fl (kidsW d.ch d.nx t.th.length (topOf d.pa t.th.length 1))) := Lib.hid (fun c hc hh h1 => by
          unfold titlesL
          refine List.mem_map.2 ⟨c, List.mem_filter.2 ⟨hc, ?_⟩, rfl⟩
          unfold hasB at hh
          rw [kids_is hc, Bool.true_and] at hh
          unfold showsL
          rw [hh]; simp [h1])
        have HLL := Lib.hid (look_list (t := t) hlit)
        have HRW := Lib.hid (row_le (titles_le (t := t) (fl := d.fl) (l := kidsW d.ch d.nx t.th.length (topOf d.pa t.th.length 1)) HF.out.tw.tx))
        have HRN : Hid ((titlesL t d.fl (kidsW d.ch d.nx t.th.length (topOf d.pa t.th.length 1))).length ≤ 1000) := Lib.hid (Nat.le_trans titles_len (Nat.le_trans (kids_len _ _ _ _) HOKw.few))
        have HKI := Lib.hid (fun c (h : c ∈ kidsW d.ch d.nx t.th.length (topOf d.pa t.th.length 1)) => kids_is h)
        have HLN : Hid ((kidsW d.ch d.nx t.th.length (topOf d.pa t.th.length 1)).length ≤ 1000) := Lib.hid (Nat.le_trans (kids_len _ _ _ _) HOKw.few)
        clear HOKw HOK HRL HRK
        generalize titlesL t d.fl (kidsW d.ch d.nx t.th.length (topOf d.pa t.th.length 1)) = ls at HTM HLL HRW HRN HL ⊢
        have HRM : Hid (∀ s, s ∈ ls → ∃ p q, rowT ls = p ++ s ++ q) := Lib.hid (fun s h => row_mem h)
        have HNE : Hid (∀ s, s ∈ ls → ls ≠ []) := Lib.hid (fun s h e => by rw [e] at h; cases h)
        generalize rowT ls = li at HLL HRW HRM HL ⊢
        generalize kidsW d.ch d.nx t.th.length (topOf d.pa t.th.length 1) = L at HTM HSE HKI HCH HLN ⊢
        have HTR := Lib.hid (HTL.out (topOf d.pa t.th.length 1))
        have HTI := Lib.hid (HTA.out (topOf d.pa t.th.length 1))
        generalize lookT t d t.th.length = lk at HLE HLH HLL ⊢
        generalize titleT t (topOf d.pa t.th.length 1) = tr at HLH HTI HTR ⊢
        generalize topOf d.pa t.th.length 1 = room at HL HHERE HCH HTI ⊢
        obtain ⟨tail, htail⟩ := HLH.out
        have hlle := HLE.out
        have htle := HTR.out
        subst htail
        rw [List.length_append] at hlle
        have HHO : Hid (∀ w', Calls Tryd.prog 27 #[.string ⟨tr.toArray⟩, .string ⟨tr.toArray⟩] w' fun e w'' => e = .returned (.bool true) ∧ w' = w'') := Lib.hid (fun w' => holdsInf tr tr w' ⟨[], [], by simp⟩ (by omega))
        have hmin : min ((tr.length : Int) + (tail.length : Int)) (tr.length : Int) = (tr.length : Int) := by omega
        have hle0 : (0 : Int) ≤ (tr.length : Int) := by omega
        have hle1 : (tr.length : Int) ≤ (tr.length : Int) + (tail.length : Int) := by omega
        have hext : (⟨(tr ++ tail).toArray⟩ : ByteArray).extract 0 tr.length = ⟨tr.toArray⟩ := by have := extract_mid [] tr tail; simp only [List.nil_append, List.length_nil, Nat.zero_add] at this; exact this
        as_aux_lemma =>
          have hz0 : w.heap.size < w4.heap.size := HTW.out.bt.lt
          have hz1 : w.heap.size + 1 < w4.heap.size := HTW.out.bw.lt
          go_wp2_with fail
          refine region_text (fun w' => Below w4.heap.size w4 w') (by kernel_rfl) (by kernel_rfl) ((Below.refl _ _).drew) (fun KK hKK => ?_)
          intro OPS
          try simp only [List.append]
          repeat (first
            | (refine' inText_val ?_ ?_ ?_ ?_
               rotate_left 2
               · rfl
               · (intro w' hS; obtain ⟨hcc, hff⟩ := bcell hS; go_simp; first | with_reducible rfl | skip)
               · (simp only [Act.put, List.setIfInBounds_toArray, List.set_cons_zero, List.set_cons_succ]; with_reducible rfl))
            | (refine' inText_call ?_ ?_ ?_ ?_ ?_
               rotate_left 4
               · rfl
               · (intro w' hS; obtain ⟨hcc, hff⟩ := bcell hS; go_simp; exact ⟨rfl, rfl⟩)
               · (intro w' hS
                  first
                    | ((with_reducible refine (HHERE.out w' (bl_then HTW.out.bl hS)).mono ?_); exact fun e w'' h => ⟨h.1, bl_then hS h.2⟩)
                    | ((with_reducible refine (HL.out w' (bl_then HTW.out.bl hS)).mono ?_); exact fun e w'' h => ⟨h.1, bl_then hS h.2⟩)
                    | ((with_reducible refine (HTI.out w' (bl_then HTW.out.bl hS)).mono ?_); exact fun e w'' h => ⟨h.1, bl_then hS h.2⟩)
                    | ((with_reducible refine (HHO.out w').mono ?_); exact fun e w'' h => ⟨h.1, by rw [← h.2]; exact hS⟩))
               · (simp only [Act.put, List.setIfInBounds_toArray, List.set_cons_zero, List.set_cons_succ]; with_reducible rfl)))
          refine inText_nil (hKK.out _ (fun w5 hS => ?_))
          clear hKK OPS hz0 hz1
          have hnew := HTW.out.below hS
          clear kt0 kt1 kt2 kt3 kt4 kt5 kt6 kt7 kt8 kt9 kt10 kt11 kt12 kt13 kt14
          clear b0 b1 b2 b3 b4 b5 b6 b7 b8 b9 bA bB bC
          clear HTWt HTWw
          clear HTW
          have HTW := Lib.hid (hnew)
          have HTWt := Lib.hid HTW.out.bt
          have HTWw := Lib.hid HTW.out.bw
          have kt0 := HTWt.out.cell 0
          have kt1 := HTWt.out.cell 1
          have kt2 := HTWt.out.cell 2
          have kt3 := HTWt.out.cell 3
          have kt4 := HTWt.out.cell 4
          have kt5 := HTWt.out.cell 5
          have kt6 := HTWt.out.cell 6
          have kt7 := HTWt.out.cell 7
          have kt8 := HTWt.out.cell 8
          have kt9 := HTWt.out.cell 9
          have kt10 := HTWt.out.cell 10
          have kt11 := HTWt.out.cell 11
          have kt12 := HTWt.out.cell 12
          have kt13 := HTWt.out.cell 13
          have kt14 := HTWt.out.cell 14
          simp only [tabC, List.getElem?_cons_zero, List.getElem?_cons_succ] at kt0 kt1 kt2 kt3 kt4 kt5 kt6 kt7 kt8 kt9 kt10 kt11 kt12 kt13 kt14
          have b0 := HTWw.out.cell 0
          have b1 := HTWw.out.cell 1
          have b2 := HTWw.out.cell 2
          have b3 := HTWw.out.cell 3
          have b4 := HTWw.out.cell 4
          have b5 := HTWw.out.cell 5
          have b6 := HTWw.out.cell 6
          have b7 := HTWw.out.cell 7
          have b8 := HTWw.out.cell 8
          have b9 := HTWw.out.cell 9
          have bA := HTWw.out.cell 10
          have bB := HTWw.out.cell 11
          have bC := HTWw.out.cell 12
          simp only [worldC, List.getElem?_cons_zero, List.getElem?_cons_succ] at b0 b1 b2 b3 b4 b5 b6 b7 b8 b9 bA bB bC
          clear hnew
          clear hS
          as_aux_lemma =>
            have hz0 : w.heap.size < w5.heap.size := HTW.out.bt.lt
            have hz1 : w.heap.size + 1 < w5.heap.size := HTW.out.bw.lt
            go_wp2_with fail
            refine region_text (fun w' => Below w5.heap.size w5 w') (by kernel_rfl) (by kernel_rfl) ((Below.refl _ _).drew) (fun KK hKK => ?_)
            intro OPS
            try simp only [List.append]
            repeat (first
              | (refine' inText_val ?_ ?_ ?_ ?_
                 rotate_left 2
                 · rfl
                 · (intro w' hS; obtain ⟨hcc, hff⟩ := bcell hS; go_simp; first | with_reducible rfl | skip)
                 · (simp only [Act.put, List.setIfInBounds_toArray, List.set_cons_zero, List.set_cons_succ]; with_reducible rfl))
              | (refine' inText_call ?_ ?_ ?_ ?_ ?_
                 rotate_left 4
                 · rfl
                 · (intro w' hS; obtain ⟨hcc, hff⟩ := bcell hS; go_simp; exact ⟨rfl, rfl⟩)
                 · (intro w' hS
                    first
                      | ((with_reducible refine (HHERE.out w' (bl_then HTW.out.bl hS)).mono ?_); exact fun e w'' h => ⟨h.1, bl_then hS h.2⟩)
                      | ((with_reducible refine (HL.out w' (bl_then HTW.out.bl hS)).mono ?_); exact fun e w'' h => ⟨h.1, bl_then hS h.2⟩)
                      | ((with_reducible refine (HTI.out w' (bl_then HTW.out.bl hS)).mono ?_); exact fun e w'' h => ⟨h.1, bl_then hS h.2⟩)
                      | ((with_reducible refine (HHO.out w').mono ?_); exact fun e w'' h => ⟨h.1, by rw [← h.2]; exact hS⟩))
                 · (simp only [Act.put, List.setIfInBounds_toArray, List.set_cons_zero, List.set_cons_succ]; with_reducible rfl)))
            refine inText_nil (hKK.out _ (fun w6 hS => ?_))
            clear hKK OPS hz0 hz1 hmin hle0 hle1 hext
            have hnew := HTW.out.below hS
            clear kt0 kt1 kt2 kt3 kt4 kt5 kt6 kt7 kt8 kt9 kt10 kt11 kt12 kt13 kt14
            clear b0 b1 b2 b3 b4 b5 b6 b7 b8 b9 bA bB bC
            clear HTWt HTWw
            clear HTW
            have HTW := Lib.hid (hnew)
            have HTWt := Lib.hid HTW.out.bt
            have HTWw := Lib.hid HTW.out.bw
            have kt0 := HTWt.out.cell 0
            have kt1 := HTWt.out.cell 1
            have kt2 := HTWt.out.cell 2
            have kt3 := HTWt.out.cell 3
            have kt4 := HTWt.out.cell 4
            have kt5 := HTWt.out.cell 5
            have kt6 := HTWt.out.cell 6
            have kt7 := HTWt.out.cell 7
            have kt8 := HTWt.out.cell 8
            have kt9 := HTWt.out.cell 9
            have kt10 := HTWt.out.cell 10
            have kt11 := HTWt.out.cell 11
            have kt12 := HTWt.out.cell 12
            have kt13 := HTWt.out.cell 13
            have kt14 := HTWt.out.cell 14
            simp only [tabC, List.getElem?_cons_zero, List.getElem?_cons_succ] at kt0 kt1 kt2 kt3 kt4 kt5 kt6 kt7 kt8 kt9 kt10 kt11 kt12 kt13 kt14
            have b0 := HTWw.out.cell 0
            have b1 := HTWw.out.cell 1
            have b2 := HTWw.out.cell 2
            have b3 := HTWw.out.cell 3
            have b4 := HTWw.out.cell 4
            have b5 := HTWw.out.cell 5
            have b6 := HTWw.out.cell 6
            have b7 := HTWw.out.cell 7
            have b8 := HTWw.out.cell 8
            have b9 := HTWw.out.cell 9
            have bA := HTWw.out.cell 10
            have bB := HTWw.out.cell 11
            have bC := HTWw.out.cell 12
            simp only [worldC, List.getElem?_cons_zero, List.getElem?_cons_succ] at b0 b1 b2 b3 b4 b5 b6 b7 b8 b9 bA bB bC
            clear hnew
            clear hS
            as_aux_lemma =>
              have hz0 : w.heap.size < w6.heap.size := HTW.out.bt.lt
              have hz1 : w.heap.size + 1 < w6.heap.size := HTW.out.bw.lt
              go_wp2_with fail
              refine region_ord [(5, true), (0, true), (1, true), (2, false), (3, false), (4, false)] (fun w' => Below w6.heap.size w6 w') (by kernel_rfl) (by kernel_rfl) ((Below.refl _ _).drew) (fun KK hKK => ?_)
              intro OPS
              simp only [List.append, List.map, List.getElem?_cons_zero, List.getElem?_cons_succ]
              refine' inOrd_read ?_ ?_ ?_ ?_
              rotate_left 2
              · rfl
              · (intro w' hS; obtain ⟨hcc, hff⟩ := bcell hS; go_simp; first | with_reducible rfl | skip)
              · (simp only [Act.put, List.setIfInBounds_toArray, List.set_cons_zero, List.set_cons_succ]; with_reducible rfl)
              refine' inOrd_read ?_ ?_ ?_ ?_
              rotate_left 2
              · rfl
              · (intro w' hS; obtain ⟨hcc, hff⟩ := bcell hS; go_simp; first | with_reducible rfl | skip)
              · (simp only [Act.put, List.setIfInBounds_toArray, List.set_cons_zero, List.set_cons_succ]; with_reducible rfl)
              refine' inOrd_read ?_ ?_ ?_ ?_
              rotate_left 2
              · rfl
              · (intro w' hS; obtain ⟨hcc, hff⟩ := bcell hS; go_simp; first | with_reducible rfl | skip)
              · (simp only [Act.put, List.setIfInBounds_toArray, List.set_cons_zero, List.set_cons_succ]; with_reducible rfl)
              refine' inOrd_call ?_ ?_ ?_
              rotate_left 2
              · rfl
              · (go_simp; exact ⟨rfl, rfl⟩)
              refine (HHERE.out _ (bl_then HTW.out.bl (Below.refl _ _).drew)).mono ?_
              rintro e w7 ⟨rfl, hb7⟩
              have HB7 : Hid (Below w6.heap.size w6 w7) := Lib.hid (bl_then (Below.refl _ _).drew hb7)
              refine ⟨_, rfl, HB7.out, ?_⟩
              clear hb7
              simp only [Act.put, List.setIfInBounds_toArray, List.set_cons_zero, List.set_cons_succ]
              refine' inOrd_call ?_ ?_ ?_
              rotate_left 2
              · rfl
              · (go_simp; exact ⟨rfl, rfl⟩)
              refine (HCH.out _ (bl_then HTW.out.bl HB7.out)).mono ?_
              rintro e w8 ⟨v8, rfl, ho8, hb8⟩
              obtain ⟨va, vc, rfl⟩ := ho8.shape
              have HIN := Lib.hid (ho8.ints (by have := HLN.out; unfold maxLen; omega))
              have HB8 : Hid (Below w6.heap.size w6 w8) := Lib.hid (bl_then HB7.out hb8)
              refine ⟨_, rfl, HB8.out, ?_⟩
              clear ho8 hb8
              simp only [Act.put, List.setIfInBounds_toArray, List.set_cons_zero, List.set_cons_succ]
              obtain ⟨m, hm⟩ : ∃ m, L.length = m := ⟨_, rfl⟩
              have hm1 : m ≤ 1000 := by have := HLN.out; omega
              rw [hm] at HIN ⊢
              have HLM := Lib.hid hm
              clear hm
              refine' inOrd_val ?_ ?_ ?_ ?_ ?_
              rotate_left 3
              · rfl
              · (go_simp; exact ⟨rfl, rfl⟩)
              · exact HB8.out
              · (simp only [Act.put, List.setIfInBounds_toArray, List.set_cons_zero, List.set_cons_succ]; with_reducible rfl)
              refine inOrd_nil (hKK.out _ _ ?_)
              clear hKK OPS hz0 hz1
              clear kt0 kt1 kt2 kt3 kt4 kt5 kt6 kt7 kt8 kt9 kt10 kt11 kt12 kt13 kt14
              clear b0 b1 b2 b3 b4 b5 b6 b7 b8 b9 bA bB bC
              clear HTWt HTWw
              have HTW8 := Lib.hid (HTW.out.below HB8.out)
              clear HTW HB7 HB8 HL HHERE HCH HTI HHO HLH
              as_aux_lemma =>
                go_wp2_with fail
                go_loopw [65] (fun iv wr => ∃ i : Nat, iv = .int .i64 i ∧ i ≤ m ∧ Hid (Below w8.heap.size w8 wr)) (fun iv _ => m - (intOf iv).toNat)
                case atStart => exact ⟨0, rfl, Nat.zero_le _, Lib.hid (Below.refl _ _)⟩
                case round =>
                  obtain ⟨i, rfl, hil, HBL⟩ := hrel
                  have HTW := Lib.hid (HTW8.out.below HBL.out)
                  have HTWt := Lib.hid HTW.out.bt
                  have HTWw := Lib.hid HTW.out.bw
                  have kt0 := HTWt.out.cell 0
                  have kt1 := HTWt.out.cell 1
                  have kt2 := HTWt.out.cell 2
                  have kt3 := HTWt.out.cell 3
                  have kt4 := HTWt.out.cell 4
                  have kt5 := HTWt.out.cell 5
                  have kt6 := HTWt.out.cell 6
                  have kt7 := HTWt.out.cell 7
                  have kt8 := HTWt.out.cell 8
                  have kt9 := HTWt.out.cell 9
                  have kt10 := HTWt.out.cell 10
                  have kt11 := HTWt.out.cell 11
                  have kt12 := HTWt.out.cell 12
                  have kt13 := HTWt.out.cell 13
                  have kt14 := HTWt.out.cell 14
                  simp only [tabC, List.getElem?_cons_zero, List.getElem?_cons_succ] at kt0 kt1 kt2 kt3 kt4 kt5 kt6 kt7 kt8 kt9 kt10 kt11 kt12 kt13 kt14
                  have b0 := HTWw.out.cell 0
                  have b1 := HTWw.out.cell 1
                  have b2 := HTWw.out.cell 2
                  have b3 := HTWw.out.cell 3
                  have b4 := HTWw.out.cell 4
                  have b5 := HTWw.out.cell 5
                  have b6 := HTWw.out.cell 6
                  have b7 := HTWw.out.cell 7
                  have b8 := HTWw.out.cell 8
                  have b9 := HTWw.out.cell 9
                  have bA := HTWw.out.cell 10
                  have bB := HTWw.out.cell 11
                  have bC := HTWw.out.cell 12
                  simp only [worldC, List.getElem?_cons_zero, List.getElem?_cons_succ] at b0 b1 b2 b3 b4 b5 b6 b7 b8 b9 bA bB bC
                  by_cases hlt : i < m
                  · as_aux_lemma =>
                      have hiL : i < L.length := by rw [HLM.out]; exact hlt
                      obtain ⟨b, o, rfl, hb, hcs⟩ := (HIN.out.below HBL.out).at2 (by omega)
                      have hci := hcs i hiL
                      have HME := Lib.hid (List.getElem_mem hiL)
                      generalize L[i] = c at *
                      clear hcs hiL
                      have HATc := Lib.hid (HAT.out c)
                      rw [if_pos (HKI.out c HME.out)] at HATc
                      have HSEc := Lib.hid (fun w' hb => HSE.out c w' hb HME.out)
                      have HTAc := Lib.hid (HTA.out c)
                      have HTMc := Lib.hid (HTM.out c HME.out)
                      have HTLc := Lib.hid (HTL.out c)
                      generalize titleT t c = tc at HTAc HTMc HTLc
                      generalize hasB d.fl t.th.length c 3 = hbb at HATc HSEc HTMc
                      clear HAT HSE HTA HTM HTL
                      go_wp2_with fail
                      refine (HATc.out _ HTW.out.bl).mono ?_
                      rintro e w10 ⟨rfl, hb10⟩
                      have HBL2 := Lib.hid (bl_then HBL.out hb10)
                      have hnew := HTW.out.below hb10
                      clear kt0 kt1 kt2 kt3 kt4 kt5 kt6 kt7 kt8 kt9 kt10 kt11 kt12 kt13 kt14
                      clear b0 b1 b2 b3 b4 b5 b6 b7 b8 b9 bA bB bC
                      clear HTWt HTWw
                      clear HTW
                      have HTW := Lib.hid (hnew)
                      have HTWt := Lib.hid HTW.out.bt
                      have HTWw := Lib.hid HTW.out.bw
                      have kt0 := HTWt.out.cell 0
                      have kt1 := HTWt.out.cell 1
                      have kt2 := HTWt.out.cell 2
                      have kt3 := HTWt.out.cell 3
                      have kt4 := HTWt.out.cell 4
                      have kt5 := HTWt.out.cell 5
                      have kt6 := HTWt.out.cell 6
                      have kt7 := HTWt.out.cell 7
                      have kt8 := HTWt.out.cell 8
                      have kt9 := HTWt.out.cell 9
                      have kt10 := HTWt.out.cell 10
                      have kt11 := HTWt.out.cell 11
                      have kt12 := HTWt.out.cell 12
                      have kt13 := HTWt.out.cell 13
                      have kt14 := HTWt.out.cell 14
                      simp only [tabC, List.getElem?_cons_zero, List.getElem?_cons_succ] at kt0 kt1 kt2 kt3 kt4 kt5 kt6 kt7 kt8 kt9 kt10 kt11 kt12 kt13 kt14
                      have b0 := HTWw.out.cell 0
                      have b1 := HTWw.out.cell 1
                      have b2 := HTWw.out.cell 2
                      have b3 := HTWw.out.cell 3
                      have b4 := HTWw.out.cell 4
                      have b5 := HTWw.out.cell 5
                      have b6 := HTWw.out.cell 6
                      have b7 := HTWw.out.cell 7
                      have b8 := HTWw.out.cell 8
                      have b9 := HTWw.out.cell 9
                      have bA := HTWw.out.cell 10
                      have bB := HTWw.out.cell 11
                      have bC := HTWw.out.cell 12
                      simp only [worldC, List.getElem?_cons_zero, List.getElem?_cons_succ] at b0 b1 b2 b3 b4 b5 b6 b7 b8 b9 bA bB bC
                      clear hnew
                      clear hb10 hci
                      by_cases hc1 : c = 1
                      · have e1 : (c == 1) = true := by simp [hc1]
                        clear hc1
                        go_wp2_with fail
                        go_roundw
                        case rel => exact ⟨i + 1, by go_num, by omega, HBL2⟩
                        case measure => simp [intOf]; omega
                      · have e1 : (c == 1) = false := by simp [hc1]
                        cases hbb with
                        | true =>
                          clear hc1
                          go_wp2_with fail
                          go_roundw
                          case rel => exact ⟨i + 1, by go_num, by omega, HBL2⟩
                          case measure => simp [intOf]; omega
                        | false =>
                          have HSEd := Lib.hid (fun w' hb => HSEc.out w' hb rfl hc1)
                          have htm := HTMc.out rfl hc1
                          have HH1 : Hid (∀ w', Calls Tryd.prog 27 #[.string ⟨li.toArray⟩, .string ⟨tc.toArray⟩] w' fun e w'' => e = .returned (.bool true) ∧ w' = w'') := Lib.hid (fun w' => holdsInf li tc w' (HRM.out tc htm) (by have := HRW.out; have := HRN.out; omega))
                          have HH2 : Hid (∀ w', Calls Tryd.prog 27 #[.string ⟨(tr ++ tail).toArray⟩, .string ⟨li.toArray⟩] w' fun e w'' => e = .returned (.bool true) ∧ w' = w'') := Lib.hid (fun w' => holdsInf (tr ++ tail) li w' (HLL.out (HNE.out tc htm)) (by rw [List.length_append]; omega))
                          clear hc1 htm
                          go_wp2_with fail
                          refine (HSEd.out _ HTW.out.bl).mono ?_
                          rintro e w11 ⟨rfl, hb11⟩
                          have HBL3 := Lib.hid (bl_then HBL2.out hb11)
                          have hnew := HTW.out.below hb11
                          clear kt0 kt1 kt2 kt3 kt4 kt5 kt6 kt7 kt8 kt9 kt10 kt11 kt12 kt13 kt14
                          clear b0 b1 b2 b3 b4 b5 b6 b7 b8 b9 bA bB bC
                          clear HTWt HTWw
                          clear HTW
                          have HTW := Lib.hid (hnew)
                          have HTWt := Lib.hid HTW.out.bt
                          have HTWw := Lib.hid HTW.out.bw
                          have kt0 := HTWt.out.cell 0
                          have kt1 := HTWt.out.cell 1
                          have kt2 := HTWt.out.cell 2
                          have kt3 := HTWt.out.cell 3
                          have kt4 := HTWt.out.cell 4
                          have kt5 := HTWt.out.cell 5
                          have kt6 := HTWt.out.cell 6
                          have kt7 := HTWt.out.cell 7
                          have kt8 := HTWt.out.cell 8
                          have kt9 := HTWt.out.cell 9
                          have kt10 := HTWt.out.cell 10
                          have kt11 := HTWt.out.cell 11
                          have kt12 := HTWt.out.cell 12
                          have kt13 := HTWt.out.cell 13
                          have kt14 := HTWt.out.cell 14
                          simp only [tabC, List.getElem?_cons_zero, List.getElem?_cons_succ] at kt0 kt1 kt2 kt3 kt4 kt5 kt6 kt7 kt8 kt9 kt10 kt11 kt12 kt13 kt14
                          have b0 := HTWw.out.cell 0
                          have b1 := HTWw.out.cell 1
                          have b2 := HTWw.out.cell 2
                          have b3 := HTWw.out.cell 3
                          have b4 := HTWw.out.cell 4
                          have b5 := HTWw.out.cell 5
                          have b6 := HTWw.out.cell 6
                          have b7 := HTWw.out.cell 7
                          have b8 := HTWw.out.cell 8
                          have b9 := HTWw.out.cell 9
                          have bA := HTWw.out.cell 10
                          have bB := HTWw.out.cell 11
                          have bC := HTWw.out.cell 12
                          simp only [worldC, List.getElem?_cons_zero, List.getElem?_cons_succ] at b0 b1 b2 b3 b4 b5 b6 b7 b8 b9 bA bB bC
                          clear hnew
                          clear hb11
                          go_wp2_with fail
                          refine (HTAc.out _ HTW.out.bl).mono ?_
                          rintro e w12 ⟨rfl, hb12⟩
                          have HBL4 := Lib.hid (bl_then HBL3.out hb12)
                          have hnew := HTW.out.below hb12
                          clear kt0 kt1 kt2 kt3 kt4 kt5 kt6 kt7 kt8 kt9 kt10 kt11 kt12 kt13 kt14
                          clear b0 b1 b2 b3 b4 b5 b6 b7 b8 b9 bA bB bC
                          clear HTWt HTWw
                          clear HTW
                          have HTW := Lib.hid (hnew)
                          have HTWt := Lib.hid HTW.out.bt
                          have HTWw := Lib.hid HTW.out.bw
                          have kt0 := HTWt.out.cell 0
                          have kt1 := HTWt.out.cell 1
                          have kt2 := HTWt.out.cell 2
                          have kt3 := HTWt.out.cell 3
                          have kt4 := HTWt.out.cell 4
                          have kt5 := HTWt.out.cell 5
                          have kt6 := HTWt.out.cell 6
                          have kt7 := HTWt.out.cell 7
                          have kt8 := HTWt.out.cell 8
                          have kt9 := HTWt.out.cell 9
                          have kt10 := HTWt.out.cell 10
                          have kt11 := HTWt.out.cell 11
                          have kt12 := HTWt.out.cell 12
                          have kt13 := HTWt.out.cell 13
                          have kt14 := HTWt.out.cell 14
                          simp only [tabC, List.getElem?_cons_zero, List.getElem?_cons_succ] at kt0 kt1 kt2 kt3 kt4 kt5 kt6 kt7 kt8 kt9 kt10 kt11 kt12 kt13 kt14
                          have b0 := HTWw.out.cell 0
                          have b1 := HTWw.out.cell 1
                          have b2 := HTWw.out.cell 2
                          have b3 := HTWw.out.cell 3
                          have b4 := HTWw.out.cell 4
                          have b5 := HTWw.out.cell 5
                          have b6 := HTWw.out.cell 6
                          have b7 := HTWw.out.cell 7
                          have b8 := HTWw.out.cell 8
                          have b9 := HTWw.out.cell 9
                          have bA := HTWw.out.cell 10
                          have bB := HTWw.out.cell 11
                          have bC := HTWw.out.cell 12
                          simp only [worldC, List.getElem?_cons_zero, List.getElem?_cons_succ] at b0 b1 b2 b3 b4 b5 b6 b7 b8 b9 bA bB bC
                          clear hnew
                          clear hb12
                          go_wp2_with fail
                          refine (HH1.out _).mono ?_
                          rintro e w13 ⟨rfl, rfl⟩
                          go_wp2_with fail
                          refine (HH2.out _).mono ?_
                          rintro e w14 ⟨rfl, rfl⟩
                          go_wp2_with fail
                          go_roundw
                          case rel => exact ⟨i + 1, by go_num, by omega, HBL4⟩
                          case measure => simp [intOf]; omega
                  · as_aux_lemma =>
                      go_wp2_with fail
                      refine (HA.out _ HTW.out.bl).mono ?_
                      rintro e w9 ⟨rfl, hb9⟩
                      have HB9 := Lib.hid (bl_then HTW.out.bl hb9)
                      clear hb9
                      clear kt0 kt1 kt2 kt3 kt4 kt5 kt6 kt7 kt8 kt9 kt10 kt11 kt12 kt13 kt14
                      clear b0 b1 b2 b3 b4 b5 b6 b7 b8 b9 bA bB bC
                      clear HTWt HTWw
                      go_wp2_with fail
                      go_ret
                      exact ⟨rfl, HB9.out⟩
end Go.Proofs.YtjnpinfnpnohmaaDoor
