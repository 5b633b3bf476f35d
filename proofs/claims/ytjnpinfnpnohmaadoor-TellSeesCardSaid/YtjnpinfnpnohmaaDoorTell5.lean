/- tell.Status. -/
import Derived.Test.YtjnpinfnpnohmaaDoorTell4
import Derived.Test.YtjnpinfnpnohmaaDoorNumTxt
namespace Go.Proofs.YtjnpinfnpnohmaaDoor
open Go.RowKit Go.PlainAid Go.Shelf Go.Lib
set_option linter.unusedVariables false
set_option linter.unusedSimpArgs false

theorem tab_belowT {P : Program} {w w' : World} {name : String} {k : IntKind} {zs : List Int} (h : Lib.TabIs P w name k zs) (hb : Below w.heap.size w w') : Lib.TabIs P w' name k zs := by
  unfold Lib.TabIs at *
  cases hg : P.globalNamed name with
  | none => simp [World.var?, hg] at h
  | some g =>
    have hlt : g < w.heap.size := by
      unfold World.var? at h
      simp only [hg, Option.bind_some] at h
      rcases Nat.lt_or_ge g w.heap.size with h' | h'
      · exact h'
      · simp [Array.getElem?_eq_none h'] at h
    unfold World.var? at *
    simp only [hg, Option.bind_some] at *
    rw [hb.block g hlt]; exact h

theorem itoa_shortT {n : Int} (h0 : -9223372036854775808 ≤ n) (h1 : n ≤ 9223372036854775807) : (itoa n).length ≤ 21 := by
  by_cases h : 0 ≤ n
  · rw [itoa_pos n h]
    have := dec_len n.toNat (by omega)
    rw [mk_size] at this; omega
  · have e : n = -((n.natAbs : Nat) : Int) := by omega
    rw [e]
    have := itoa_len n.natAbs (by omega) (by omega)
    rw [mk_size] at this; exact this
def scoreL : TxC := [44, 32, 115, 99, 111, 114, 101, 32]
def ofL : TxC := [32, 111, 102, 32]
def turnL : TxC := [44, 32, 116, 117, 114, 110, 32]
def darknessL : TxC := [68, 97, 114, 107, 110, 101, 115, 115]
/-- What Status says. -/
def statusT (t : TbC) (q : Wv) (d : WdC) (n : Nat) : TxC :=
  (if litB d n = true then titleT t (topOf d.pa n 1) else darknessL) ++ scoreL ++ itoa q.sc ++ ofL ++ itoa t.mx ++ turnL ++ itoa q.tu
theorem cat6 (a b c d e f : TxC) : (⟨a.toArray⟩ : ByteArray) ++ ⟨b.toArray⟩ ++ ⟨c.toArray⟩ ++ ⟨d.toArray⟩ ++ ⟨e.toArray⟩ ++ ⟨f.toArray⟩ = ⟨(a ++ b ++ c ++ d ++ e ++ f).toArray⟩ := by
  rw [ba_app, ba_app, ba_app, ba_app, ba_app]
theorem cat7 (a b c d e f g : TxC) : (⟨a.toArray⟩ : ByteArray) ++ ⟨b.toArray⟩ ++ ⟨c.toArray⟩ ++ ⟨d.toArray⟩ ++ ⟨e.toArray⟩ ++ ⟨f.toArray⟩ ++ ⟨g.toArray⟩ = ⟨(a ++ b ++ c ++ d ++ e ++ f ++ g).toArray⟩ := by
  rw [ba_app, ba_app, ba_app, ba_app, ba_app, ba_app]
theorem wf_bd {n : Int} (h : (Lit.int .i64 n).wf = true) : -9223372036854775808 ≤ n ∧ n ≤ 9223372036854775807 := by
  have := h
  simp [Lit.wf] at this
  have h1 : IntKind.i64.min = -9223372036854775808 := by decide
  have h2 : IntKind.i64.max = 9223372036854775807 := by decide
  omega
set_option maxRecDepth 100000 in
set_option maxHeartbeats 8000000 in
theorem statusC (x : TAd) (t : TbC) (q : Wv) (d : WdC) (n : Nat) (w : World) (ht : TabIs w x t) (hW : WOk w q d n) (hT : TW t n) (htab : Lib.TabIs Tryd.prog w "internal/strconv.uint64pow10" .u64 Lib.pow10Tab) :
    Calls Tryd.prog 19 #[tabV x t, worldV q] w fun e w' => e = .returned (mkS (statusT t q d n)) ∧ Below w.heap.size w w' := by
  have hnew := Two.new x t q w
  obtain ⟨W0, hW0⟩ : ∃ W0, (w.alloc (.cells (tabC x t).toArray 28)).alloc (.cells (worldC q).toArray 34) = W0 := ⟨_, rfl⟩
  rw [hW0] at hnew
  have HLIT := Lib.hid (fun w' (hb : Below w.heap.size w w') => litC x t q d n w' (hW.below hb))
  have HH := Lib.hid (fun w' (hb : Below w.heap.size w w') => hereC q d n w' (hW.below hb))
  have HT := Lib.hid (fun w' (hb : Below w.heap.size w w') => tellTitle x t (topOf d.pa n 1) w' (ht.below hb))
  have r1 := wf_bd hW.is.i1
  have r2 := wf_bd ht.i3
  have r3 := wf_bd hW.is.i2
  have H1 := Lib.hid (fun w' (hb : Below w.heap.size w w') => numText q.sc w' r1.1 r1.2 (tab_belowT htab hb))
  have H2 := Lib.hid (fun w' (hb : Below w.heap.size w w') => numText t.mx w' r2.1 r2.2 (tab_belowT htab hb))
  have H3 := Lib.hid (fun w' (hb : Below w.heap.size w w') => numText q.tu w' r3.1 r3.2 (tab_belowT htab hb))
  have z1 := itoa_shortT r1.1 r1.2
  have z2 := itoa_shortT r2.1 r2.2
  have z3 := itoa_shortT r3.1 r3.2
  have z0 := title_le hT.tx (topOf d.pa n 1)
  unfold statusT
  generalize topOf d.pa n 1 = room at *
  generalize titleT t room = ti at *
  generalize litB d n = lit at *
  generalize itoa q.sc = s1 at *
  generalize itoa t.mx = s2 at *
  generalize itoa q.tu = s3 at *
  clear ht hW hT htab
  have HTW := Lib.hid (hnew)
  have HTWt := Lib.hid HTW.out.bt
  have HTWw := Lib.hid HTW.out.bw
  have kt0 := HTWt.out.cell 0
  have kt1 := HTWt.out.cell 1
  have kt2 := HTWt.out.cell 2
  have kt3 := HTWt.out.cell 3
  have kt4 := HTWt.out.cell 4
  have kt5 := HTWt.out.cell 5
  have kt6 := HTWt.out.cell 6
  have kt7 := HTWt.out.cell 7
  have kt8 := HTWt.out.cell 8
  have kt9 := HTWt.out.cell 9
  have kt10 := HTWt.out.cell 10
  have kt11 := HTWt.out.cell 11
  have kt12 := HTWt.out.cell 12
  have kt13 := HTWt.out.cell 13
  have kt14 := HTWt.out.cell 14
  simp only [tabC, List.getElem?_cons_zero, List.getElem?_cons_succ] at kt0 kt1 kt2 kt3 kt4 kt5 kt6 kt7 kt8 kt9 kt10 kt11 kt12 kt13 kt14
  have b0 := HTWw.out.cell 0
  have b1 := HTWw.out.cell 1
  have b2 := HTWw.out.cell 2
  have b3 := HTWw.out.cell 3
  have b4 := HTWw.out.cell 4
  have b5 := HTWw.out.cell 5
  have b6 := HTWw.out.cell 6
  have b7 := HTWw.out.cell 7
  have b8 := HTWw.out.cell 8
  have b9 := HTWw.out.cell 9
  have bA := HTWw.out.cell 10
  have bB := HTWw.out.cell 11
  have bC := HTWw.out.cell 12
  simp only [worldC, List.getElem?_cons_zero, List.getElem?_cons_succ] at b0 b1 b2 b3 b4 b5 b6 b7 b8 b9 bA bB bC
  clear hnew
  unfold worldV tabV at *
  go_enter Tryd.func19, Tryd.ntmps19
  unfold worldC at HLIT HH hW0 ⊢
  unfold tabC at HLIT HT hW0 ⊢
  unfold mkS at HT ⊢
  unfold mk at H1 H2 H3
  go_wp2_with fail
  clear hW0
  refine (HLIT.out _ HTW.out.bl).mono ?_
  rintro e w1 ⟨rfl, hb1⟩
  have hnew := HTW.out.below hb1
  clear hb1
  clear kt0 kt1 kt2 kt3 kt4 kt5 kt6 kt7 kt8 kt9 kt10 kt11 kt12 kt13 kt14
  clear b0 b1 b2 b3 b4 b5 b6 b7 b8 b9 bA bB bC
  clear HTWt HTWw
  clear HTW
  have HTW := Lib.hid (hnew)
  have HTWt := Lib.hid HTW.out.bt
  have HTWw := Lib.hid HTW.out.bw
  have kt0 := HTWt.out.cell 0
  have kt1 := HTWt.out.cell 1
  have kt2 := HTWt.out.cell 2
  have kt3 := HTWt.out.cell 3
  have kt4 := HTWt.out.cell 4
  have kt5 := HTWt.out.cell 5
  have kt6 := HTWt.out.cell 6
  have kt7 := HTWt.out.cell 7
  have kt8 := HTWt.out.cell 8
  have kt9 := HTWt.out.cell 9
  have kt10 := HTWt.out.cell 10
  have kt11 := HTWt.out.cell 11
  have kt12 := HTWt.out.cell 12
  have kt13 := HTWt.out.cell 13
  have kt14 := HTWt.out.cell 14
  simp only [tabC, List.getElem?_cons_zero, List.getElem?_cons_succ] at kt0 kt1 kt2 kt3 kt4 kt5 kt6 kt7 kt8 kt9 kt10 kt11 kt12 kt13 kt14
  have b0 := HTWw.out.cell 0
  have b1 := HTWw.out.cell 1
  have b2 := HTWw.out.cell 2
  have b3 := HTWw.out.cell 3
  have b4 := HTWw.out.cell 4
  have b5 := HTWw.out.cell 5
  have b6 := HTWw.out.cell 6
  have b7 := HTWw.out.cell 7
  have b8 := HTWw.out.cell 8
  have b9 := HTWw.out.cell 9
  have bA := HTWw.out.cell 10
  have bB := HTWw.out.cell 11
  have bC := HTWw.out.cell 12
  simp only [worldC, List.getElem?_cons_zero, List.getElem?_cons_succ] at b0 b1 b2 b3 b4 b5 b6 b7 b8 b9 bA bB bC
  clear hnew
  have hlt0 : w.heap.size < w1.heap.size := HTW.out.bt.lt
  have hlt1 : w.heap.size + 1 < w1.heap.size := HTW.out.bw.lt
  cases lit with
  | false =>
    have hs0 : (⟨#[68, 97, 114, 107, 110, 101, 115, 115]⟩ : ByteArray) ++ ⟨#[44, 32, 115, 99, 111, 114, 101, 32]⟩ = ⟨(darknessL ++ scoreL).toArray⟩ := by
      rw [show (⟨#[68, 97, 114, 107, 110, 101, 115, 115]⟩ : ByteArray) = ⟨darknessL.toArray⟩ from rfl, show (⟨#[44, 32, 115, 99, 111, 114, 101, 32]⟩ : ByteArray) = ⟨scoreL.toArray⟩ from rfl, ba_app]
    have hdl : (darknessL ++ scoreL).length ≤ 20 := by decide
    have HDK : Hid (darknessL ++ scoreL ++ s1 ++ ofL ++ s2 ++ turnL ++ s3 = (if false = true then ti else darknessL) ++ scoreL ++ s1 ++ ofL ++ s2 ++ turnL ++ s3) := Lib.hid rfl
    generalize darknessL ++ scoreL = dk at *
    go_wp2_with fail
    refine region_text (fun w' => Below w1.heap.size w1 w') (by kernel_rfl) (by kernel_rfl) ((Below.refl _ _).drew) (fun KK hKK => ?_)
    intro OPS
    try simp only [List.append]
    repeat (first
      | (refine' inText_val ?_ ?_ ?_ ?_
         rotate_left 2
         · rfl
         · (intro w' hS; obtain ⟨hcc, hff⟩ := bcell hS; go_simp; first | with_reducible rfl | (rw [if_neg (by omega)]; done) | (rw [if_neg (by omega)]; with_reducible rfl) | skip)
         · (simp only [Act.put, List.setIfInBounds_toArray, List.set_cons_zero, List.set_cons_succ]; with_reducible rfl))
      | (refine' inText_call ?_ ?_ ?_ ?_ ?_
         rotate_left 4
         · rfl
         · (intro w' hS; obtain ⟨hcc, hff⟩ := bcell hS; go_simp; exact ⟨rfl, rfl⟩)
         · (intro w' hS
            first
              | ((with_reducible refine (HH.out w' (bl_then HTW.out.bl hS)).mono ?_); exact fun e w'' h => ⟨h.1, bl_then hS h.2⟩)
              | ((with_reducible refine (HT.out w' (bl_then HTW.out.bl hS)).mono ?_); exact fun e w'' h => ⟨h.1, bl_then hS h.2⟩)
              | ((with_reducible refine (H1.out w' (bl_then HTW.out.bl hS)).mono ?_); exact fun e w'' h => ⟨h.1, bl_then hS h.2⟩)
              | ((with_reducible refine (H2.out w' (bl_then HTW.out.bl hS)).mono ?_); exact fun e w'' h => ⟨h.1, bl_then hS h.2⟩)
              | ((with_reducible refine (H3.out w' (bl_then HTW.out.bl hS)).mono ?_); exact fun e w'' h => ⟨h.1, bl_then hS h.2⟩))
         · (simp only [Act.put, List.setIfInBounds_toArray, List.set_cons_zero, List.set_cons_succ]; with_reducible rfl)))
    refine inText_nil (hKK.out _ (fun w' hS => ?_))
    have HB9 := Lib.hid (bl_then HTW.out.bl hS)
    clear hS hKK
    clear kt0 kt1 kt2 kt3 kt4 kt5 kt6 kt7 kt8 kt9 kt10 kt11 kt12 kt13 kt14
    clear b0 b1 b2 b3 b4 b5 b6 b7 b8 b9 bA bB bC
    clear HTWt HTWw
    go_wp2
    go_ret
    exact ⟨congrArg (fun b => Ending.returned (.string b)) ((cat6 dk s1 ofL s2 turnL s3).trans (by rw [HDK.out]; simp)), HB9.out⟩
  | true =>
    go_wp2_with fail
    refine region_text (fun w' => Below w1.heap.size w1 w') (by kernel_rfl) (by kernel_rfl) ((Below.refl _ _).drew) (fun KK hKK => ?_)
    intro OPS
    try simp only [List.append]
    repeat (first
      | (refine' inText_val ?_ ?_ ?_ ?_
         rotate_left 2
         · rfl
         · (intro w' hS; obtain ⟨hcc, hff⟩ := bcell hS; go_simp; first | with_reducible rfl | (rw [if_neg (by omega)]; done) | (rw [if_neg (by omega)]; with_reducible rfl) | skip)
         · (simp only [Act.put, List.setIfInBounds_toArray, List.set_cons_zero, List.set_cons_succ]; with_reducible rfl))
      | (refine' inText_call ?_ ?_ ?_ ?_ ?_
         rotate_left 4
         · rfl
         · (intro w' hS; obtain ⟨hcc, hff⟩ := bcell hS; go_simp; exact ⟨rfl, rfl⟩)
         · (intro w' hS
            first
              | ((with_reducible refine (HH.out w' (bl_then HTW.out.bl hS)).mono ?_); exact fun e w'' h => ⟨h.1, bl_then hS h.2⟩)
              | ((with_reducible refine (HT.out w' (bl_then HTW.out.bl hS)).mono ?_); exact fun e w'' h => ⟨h.1, bl_then hS h.2⟩)
              | ((with_reducible refine (H1.out w' (bl_then HTW.out.bl hS)).mono ?_); exact fun e w'' h => ⟨h.1, bl_then hS h.2⟩)
              | ((with_reducible refine (H2.out w' (bl_then HTW.out.bl hS)).mono ?_); exact fun e w'' h => ⟨h.1, bl_then hS h.2⟩)
              | ((with_reducible refine (H3.out w' (bl_then HTW.out.bl hS)).mono ?_); exact fun e w'' h => ⟨h.1, bl_then hS h.2⟩))
         · (simp only [Act.put, List.setIfInBounds_toArray, List.set_cons_zero, List.set_cons_succ]; with_reducible rfl)))
    refine inText_nil (hKK.out _ (fun w5 hS => ?_))
    have hnew := HTW.out.below hS
    clear hS hKK
    clear kt0 kt1 kt2 kt3 kt4 kt5 kt6 kt7 kt8 kt9 kt10 kt11 kt12 kt13 kt14
    clear b0 b1 b2 b3 b4 b5 b6 b7 b8 b9 bA bB bC
    clear HTWt HTWw
    clear HTW
    have HTW := Lib.hid (hnew)
    have HTWt := Lib.hid HTW.out.bt
    have HTWw := Lib.hid HTW.out.bw
    have kt0 := HTWt.out.cell 0
    have kt1 := HTWt.out.cell 1
    have kt2 := HTWt.out.cell 2
    have kt3 := HTWt.out.cell 3
    have kt4 := HTWt.out.cell 4
    have kt5 := HTWt.out.cell 5
    have kt6 := HTWt.out.cell 6
    have kt7 := HTWt.out.cell 7
    have kt8 := HTWt.out.cell 8
    have kt9 := HTWt.out.cell 9
    have kt10 := HTWt.out.cell 10
    have kt11 := HTWt.out.cell 11
    have kt12 := HTWt.out.cell 12
    have kt13 := HTWt.out.cell 13
    have kt14 := HTWt.out.cell 14
    simp only [tabC, List.getElem?_cons_zero, List.getElem?_cons_succ] at kt0 kt1 kt2 kt3 kt4 kt5 kt6 kt7 kt8 kt9 kt10 kt11 kt12 kt13 kt14
    have b0 := HTWw.out.cell 0
    have b1 := HTWw.out.cell 1
    have b2 := HTWw.out.cell 2
    have b3 := HTWw.out.cell 3
    have b4 := HTWw.out.cell 4
    have b5 := HTWw.out.cell 5
    have b6 := HTWw.out.cell 6
    have b7 := HTWw.out.cell 7
    have b8 := HTWw.out.cell 8
    have b9 := HTWw.out.cell 9
    have bA := HTWw.out.cell 10
    have bB := HTWw.out.cell 11
    have bC := HTWw.out.cell 12
    simp only [worldC, List.getElem?_cons_zero, List.getElem?_cons_succ] at b0 b1 b2 b3 b4 b5 b6 b7 b8 b9 bA bB bC
    have hlt0 : w.heap.size < w5.heap.size := HTW.out.bt.lt
    have hlt1 : w.heap.size + 1 < w5.heap.size := HTW.out.bw.lt
    clear hnew
    go_wp2_with fail
    refine region_text (fun w' => Below w5.heap.size w5 w') (by kernel_rfl) (by kernel_rfl) ((Below.refl _ _).drew) (fun KK hKK => ?_)
    intro OPS
    try simp only [List.append]
    repeat (first
      | (refine' inText_val ?_ ?_ ?_ ?_
         rotate_left 2
         · rfl
         · (intro w' hS; obtain ⟨hcc, hff⟩ := bcell hS; go_simp; first | with_reducible rfl | (rw [if_neg (by omega)]; done) | (rw [if_neg (by omega)]; with_reducible rfl) | skip)
         · (simp only [Act.put, List.setIfInBounds_toArray, List.set_cons_zero, List.set_cons_succ]; with_reducible rfl))
      | (refine' inText_call ?_ ?_ ?_ ?_ ?_
         rotate_left 4
         · rfl
         · (intro w' hS; obtain ⟨hcc, hff⟩ := bcell hS; go_simp; exact ⟨rfl, rfl⟩)
         · (intro w' hS
            first
              | ((with_reducible refine (HH.out w' (bl_then HTW.out.bl hS)).mono ?_); exact fun e w'' h => ⟨h.1, bl_then hS h.2⟩)
              | ((with_reducible refine (HT.out w' (bl_then HTW.out.bl hS)).mono ?_); exact fun e w'' h => ⟨h.1, bl_then hS h.2⟩)
              | ((with_reducible refine (H1.out w' (bl_then HTW.out.bl hS)).mono ?_); exact fun e w'' h => ⟨h.1, bl_then hS h.2⟩)
              | ((with_reducible refine (H2.out w' (bl_then HTW.out.bl hS)).mono ?_); exact fun e w'' h => ⟨h.1, bl_then hS h.2⟩)
              | ((with_reducible refine (H3.out w' (bl_then HTW.out.bl hS)).mono ?_); exact fun e w'' h => ⟨h.1, bl_then hS h.2⟩))
         · (simp only [Act.put, List.setIfInBounds_toArray, List.set_cons_zero, List.set_cons_succ]; with_reducible rfl)))
    refine inText_nil (hKK.out _ (fun w6 hS => ?_))
    have HB9 := Lib.hid (bl_then HTW.out.bl hS)
    clear hS hKK
    clear kt0 kt1 kt2 kt3 kt4 kt5 kt6 kt7 kt8 kt9 kt10 kt11 kt12 kt13 kt14
    clear b0 b1 b2 b3 b4 b5 b6 b7 b8 b9 bA bB bC
    clear HTWt HTWw
    go_wp2
    go_ret
    exact ⟨congrArg (fun b => Ending.returned (.string b)) ((cat7 ti scoreL s1 ofL s2 turnL s3).trans (by simp)), HB9.out⟩
end Go.Proofs.YtjnpinfnpnohmaaDoor
