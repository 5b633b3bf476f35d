/- tell.listed: a closure that appends to a captured list. -/
import Derived.Test.YtjnpinfnpnohmaaDoorTell1
import Derived.Test.YtjnpinfnpnohmaaDoorView
import Derived.Test.YtjnpinfnpnohmaaDoorMix
import Derived.Deep.AppendLies
namespace Go.Proofs.YtjnpinfnpnohmaaDoor
open Go.RowKit Go.PlainAid Go.Shelf
set_option linter.unusedVariables false
set_option linter.unusedSimpArgs false

theorem info_str : (Tryd.prog.info? 9).map (fun i => (i.zero, i.size, i.bytes)) = some (some (.string ⟨#[]⟩), 1, 16) := by kernel_rfl
/-- What the closure holds: the boxes, and the titles so far. -/
structure LSt (x : TAd) (t : TbC) (q : Wv) (s : Nat) (w : World) (v : Value) (ls : List TxC) : Prop where
  bt : BK w s (tabC x t) 28
  bw : BK w (s + 1) (worldC q) 34
  bo : Boxed w (s + 2) 22 v
  row : w.ownsRow (s + 3) 9 1 v ls.length (ls.map mkS)
theorem bitB_three (m : Int) : bitB m 3 = decide (m / 8 % 2 = 1) := rfl
/-- What is not hidden, and not the player. -/
def showsL (fl : List Int) (y : Int) : Bool := !(y == 1) && !bitB (atW fl y) 3
set_option maxRecDepth 100000 in
set_option maxHeartbeats 4000000 in
theorem addNo (x : TAd) (t : TbC) (q : Wv) (d : WdC) (n s : Nat) (y : Int) (ls : List TxC) (v : Value) (w : World) (hW : WOk w q d n) (hy : isW n y = true) (h : LSt x t q s w v ls) (hs : showsL d.fl y = false) :
    Calls Tryd.prog 80 #[.int .i64 y, .pointer (some ⟨s + 1, 0, none⟩), .pointer (some ⟨s + 2, 0, none⟩), .pointer (some ⟨s, 0, none⟩)] w fun e w' => e = .returned (.tuple #[]) ∧ w = w' := by
  have hlt := isW_lt hy
  have h5 : d.fl.length = n := by rw [← hW.is.fl.len, hW.l4]
  obtain ⟨bc, oc, hac, hbc, hcc, _⟩ := hW.is.fl.at_ (i := y.toNat) (by rw [h5]; exact hlt.1)
  have hcx := hcc y.toNat (by rw [h5]; exact hlt.1)
  have hfm := hW.fl _ (List.getElem_mem (n := y.toNat) (by rw [h5]; exact hlt.1))
  unfold showsL at hs
  rw [atW_get (by rw [h5]; exact hlt.1)] at hs
  generalize d.fl[y.toNat]'(by rw [h5]; exact hlt.1) = m at *
  have hl4 := hW.l4
  have hm := hW.len.few
  unfold maxLen at hm
  have b4 := h.bw.cell 4
  simp only [worldC, List.getElem?_cons_zero, List.getElem?_cons_succ] at b4
  rw [hac, hl4] at b4
  obtain ⟨hm0, hm1⟩ := hfm
  obtain ⟨hx1', hx2', hx3'⟩ := hlt
  have HA : Hid (bits BinOp.and IntKind.i64 (m / 8) 1 = m / 8 % 2) := Lib.hid (by
    have h := shr_bd m 3 hm0 hm1
    exact and_one _ h.1 h.2)
  clear hW hcc h hac hl4 h5
  by_cases h1 : y = 1
  · subst h1
    clear hs
    go_enter Tryd.func80, Tryd.ntmps80
    go_wp2
    go_end0
    exact ⟨rfl, rfl⟩
  · have hb : bitB m 3 = true := by simpa [h1] using hs
    clear hs
    rw [bitB_three] at hb
    have hb := of_decide_eq_true hb
    have h10 : (y == 1) = false := by simpa using h1
    have h11 : (y != 1) = true := by simpa using h1
    have ha := HA.out
    rw [hb] at ha
    go_enter Tryd.func80, Tryd.ntmps80
    go_wp2
    go_end0
    exact ⟨rfl, rfl⟩
theorem str_newS (W : World) (u : TxC) (T : TypeId) : ∀ j v, ([mkS u] : List Value)[j]? = some v → (W.alloc (.cells #[.string ⟨u.toArray⟩] T)).cell? ((⟨W.heap.size, 0, none⟩ : Addr).add j) = some v := news_lit W [mkS u] T
set_option maxRecDepth 100000 in
set_option maxHeartbeats 4000000 in
theorem addYes (x : TAd) (t : TbC) (q : Wv) (d : WdC) (n s : Nat) (y : Int) (ls : List TxC) (v : Value) (w : World) (ht : TabIs w x t) (hW : WOk w q d n) (hy : isW n y = true) (h : LSt x t q s w v ls) (hs : showsL d.fl y = true) (hls : ls.length ≤ 1000) :
    Calls Tryd.prog 80 #[.int .i64 y, .pointer (some ⟨s + 1, 0, none⟩), .pointer (some ⟨s + 2, 0, none⟩), .pointer (some ⟨s, 0, none⟩)] w fun e w' => e = .returned (.tuple #[]) ∧
      ∃ v', LSt x t q s w' v' (ls ++ [titleT t y]) ∧ KpB (s + 2) w w' ∧ Below (s + 2) w w' := by
  have hlt := isW_lt hy
  have h5 : d.fl.length = n := by rw [← hW.is.fl.len, hW.l4]
  obtain ⟨bc, oc, hac, hbc, hcc, _⟩ := hW.is.fl.at_ (i := y.toNat) (by rw [h5]; exact hlt.1)
  have hcx := hcc y.toNat (by rw [h5]; exact hlt.1)
  have hfm := hW.fl _ (List.getElem_mem (n := y.toNat) (by rw [h5]; exact hlt.1))
  unfold showsL at hs
  rw [atW_get (by rw [h5]; exact hlt.1)] at hs
  generalize d.fl[y.toNat]'(by rw [h5]; exact hlt.1) = m at *
  have hl4 := hW.l4
  have hm := hW.len.few
  unfold maxLen at hm
  have b4 := h.bw.cell 4
  simp only [worldC, List.getElem?_cons_zero, List.getElem?_cons_succ] at b4
  rw [hac, hl4] at b4
  obtain ⟨hm0, hm1⟩ := hfm
  obtain ⟨hx1', hx2', hx3'⟩ := hlt
  have ha : bits BinOp.and IntKind.i64 (m / 8) 1 = m / 8 % 2 := by
    have h := shr_bd m 3 hm0 hm1
    exact and_one _ h.1 h.2
  have h1 : y ≠ 1 ∧ bitB m 3 = false := by simpa using hs
  have hb := h1.2
  rw [bitB_three] at hb
  have hb := of_decide_eq_false hb
  have h0 : m / 8 % 2 = 0 := by omega
  rw [h0] at ha
  have h10 : (y == 1) = false := by simpa using h1.1
  have h11 : (y != 1) = true := by simpa using h1.1
  obtain ⟨va, vc, hvv⟩ := ow_shape h.row
  subst hvv
  have HH := Lib.hid h
  have HTT := Lib.hid (fun w' (hb : Below w.heap.size w w') => tellTitle x t y w' (ht.below hb))
  have hbo := h.bo.cell
  have hbf := h.bo.frozen
  have hkt := h.bt
  have kt0 := hkt.cell 0
  have kt1 := hkt.cell 1
  have kt2 := hkt.cell 2
  have kt3 := hkt.cell 3
  have kt4 := hkt.cell 4
  have kt5 := hkt.cell 5
  have kt6 := hkt.cell 6
  have kt7 := hkt.cell 7
  have kt8 := hkt.cell 8
  have kt9 := hkt.cell 9
  have kt10 := hkt.cell 10
  have kt11 := hkt.cell 11
  have kt12 := hkt.cell 12
  have kt13 := hkt.cell 13
  have kt14 := hkt.cell 14
  simp only [tabC, List.getElem?_cons_zero, List.getElem?_cons_succ] at kt0 kt1 kt2 kt3 kt4 kt5 kt6 kt7 kt8 kt9 kt10 kt11 kt12 kt13 kt14
  generalize titleT t y = ti at *
  clear hW hcc h hac hl4 h5 hs hb h1 h0 ht hkt
  unfold tabV tabC mkS at HTT
  have hll : (ls.length : Int) < 1000 + 1 := by omega
  go_enter Tryd.func80, Tryd.ntmps80
  go_wp2_with fail
  clear b4 hcx
  have HLT := HH.out.bo.lt
  have HLS := HH.out.bt.lt
  obtain ⟨i0, hi, hz0, hz1, hz2⟩ := info_parts info_str
  refine region_mix 3 5 (fun w' => Below w.heap.size w w') (by kernel_rfl) (by kernel_rfl) ((Below.refl _ _).drew) (fun KK hKK => ?_)
  intro OPS
  simp only [List.append, List.take, List.drop, Nat.reduceSub]
  repeat (refine' inRead_val ?_ ?_ ?_ ?_
          rotate_left 2
          · rfl
          · (intro w' hS; obtain ⟨hcc, hff⟩ := bcell hS; go_simp; try with_reducible rfl)
          · (simp only [Act.put, List.setIfInBounds_toArray, List.set_cons_zero, List.set_cons_succ]; with_reducible rfl))
  refine inRead_nil ?_
  refine' inSeq_call ?_ ?_ ?_
  rotate_left 2
  · rfl
  · go_simp
    exact ⟨rfl, rfl⟩
  refine (HTT.out _ (Below.refl _ _).drew).mono ?_
  rintro e w1 ⟨rfl, hb1⟩
  have HB1 : Hid (Below w.heap.size w w1) := Lib.hid (bl_then (Below.refl _ _).drew hb1)
  have HRW := Lib.hid (ow_below HH.out.row HB1.out)
  clear hb1
  refine ⟨_, rfl, HB1.out, ?_⟩
  simp only [Act.put, List.setIfInBounds_toArray, List.set_cons_zero, List.set_cons_succ]
  refine' inSeq_val ?_ ?_ ?_ ?_ ?_
  rotate_left 3
  · rfl
  · go_simp
    first | exact ⟨rfl, rfl⟩ | rfl
  · exact bl_a HB1.out _
  · simp only [Act.put, List.setIfInBounds_toArray, List.set_cons_zero, List.set_cons_succ]
    with_reducible rfl
  refine inSeq_nil (hKK.out _ _ ?_)
  have HBX := Lib.hid (HH.out.bo.kept (gr_below HB1.out (r := none)) (by simp))
  have hf1 := (HB1.out.frozen (p := ⟨s + 2, 0, none⟩) HLT).trans hbf
  have hbo1 := (HB1.out.cell (p := ⟨s + 2, 0, none⟩) HLT).trans hbo
  have hzw := HB1.out.size
  have hne : some (s + 2) ≠ (Value.slice va ls.length vc).ownBlock := fun e => by have := ow_lo HH.out.row _ e.symm; omega
  have HNE := Lib.hid hne
  clear hne hKK
  simp only [List.drop]
  at_builtin
  refine wpList_append_lies _ rfl _ _ 22 rfl (s + 3) 9 i0 (.string ⟨#[]⟩) 1 16 Tryd.underlying22 hi hz0 hz1 hz2 rfl (by decide) (.slice va ls.length vc) ls.length (ls.map mkS) rfl (HRW.out.alloc _) ⟨w1.heap.size, 0, none⟩ 1 1 [mkS ti] rfl rfl (str_newS _ _ _) (ow_one rfl) (by decide) (by unfold maxLen; omega) (by omega) (by simp; omega) _ rfl ?_
  intro ga gc w5 hown5 hgrow5 hat5 hlt5
  have HO5 := Lib.hid hown5
  have HG5 := Lib.hid hgrow5
  have HA5 := Lib.hid hat5
  have HL5 := Lib.hid hlt5
  have hbx5 := (HBX.out.alloc _).kept hgrow5 HNE.out
  have HB5 := Lib.hid hbx5
  have e0 := hbx5.cell
  have e1 := hbx5.frozen
  clear hbx5
  clear hown5 hgrow5 hat5 hlt5
  go_wp2
  go_end0
  have hbt1 := (HH.out.bt.below HB1.out).alloc (.cells #[.string ⟨ti.toArray⟩] 9)
  have hbw1 := (HH.out.bw.below HB1.out).alloc (.cells #[.string ⟨ti.toArray⟩] 9)
  have hlo : ∀ j, (Value.slice va ls.length vc).ownBlock = some j → s + 3 ≤ j := fun j hj => ow_lo HH.out.row j hj
  have hb5 : Below (s + 2) w w5 := ((Below.refl _ w).trans ((bl_a HB1.out (.cells #[.string ⟨ti.toArray⟩] 9)).mono (by omega))).grown HG5.out (by simp; omega) (fun j hj => by have := hlo j hj; omega)
  refine ⟨rfl, _, ⟨(hbt1.kept HG5.out (fun j hj => by have := hlo j hj; omega)).setO (by omega) _ _, (hbw1.kept HG5.out (fun j hj => by have := hlo j hj; omega)).setO (by omega) _ _, HB5.out.set _, ?_⟩, ?_, hb5.setCell (p := ⟨s + 2, 0, none⟩) (Nat.le_refl _) _⟩
  · have := HO5.out.kept (gr_set w5 (s + 2) 0 (.slice (some ⟨ga, 0, none⟩) (ls.length + 1) gc)) (.inr (fun e => by have := ow_lo HO5.out _ e; omega))
    simpa using this
  · exact (Makes.kpB (B := s + 2) HB1.out HLT).trans (kpB_append (HBX.out) HG5.out HA5.out HL5.out (HB5.out.set _))
end Go.Proofs.YtjnpinfnpnohmaaDoor
