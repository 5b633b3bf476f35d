/- Contracts of tell.Text, tell.Title and of the reference's. -/
import Derived.Test.YtjnpinfnpnohmaaDoorFitsC
import Derived.Test.YtjnpinfnpnohmaaDoorGrow
import Derived.Test.YtjnpinfnpnohmaaDoorNest
namespace Go.Proofs.YtjnpinfnpnohmaaDoor
open Go.RowKit Go.PlainAid
set_option linter.unusedVariables false
set_option linter.unusedSimpArgs false

/-- A text of the tables. -/
def textT (t : TbC) (i : Int) : TxC := if 0 ≤ i then t.tx.getD i.toNat [] else []
def nothingL : TxC := [110, 111, 116, 104, 105, 110, 103]
/-- A thing's title. -/
def titleT (t : TbC) (x : Int) : TxC := if 1 ≤ x then (match t.th[x.toNat]? with | some y => textT t y.ti | none => nothingL) else nothingL
def mkS (l : TxC) : Value := .string ⟨l.toArray⟩
set_option maxRecDepth 100000 in
theorem tellText (x : TAd) (t : TbC) (i : Int) (w : World) (ht : TabIs w x t) :
    Calls Tryd.prog 10 #[tabV x t, .int .i64 i] w fun e w' => e = .returned (mkS (textT t i)) ∧ Below w.heap.size w w' := by
  unfold mkS
  have HB0 := Lib.hid (bl_tab w x t)
  have HK0 : Hid (BK (tabW w x t) w.heap.size (tabC x t) 28) := Lib.hid (BK.new w (tabC x t) 28)
  obtain ⟨W0, hW0⟩ : ∃ W0, tabW w x t = W0 := ⟨_, rfl⟩
  rw [hW0] at HB0 HK0
  unfold tabW tabC at hW0
  unfold tabV tabC
  by_cases h0 : 0 ≤ i
  · by_cases h1 : i < (t.tx.length : Int)
    · obtain ⟨k, rfl⟩ : ∃ k : Nat, i = k := ⟨i.toNat, by omega⟩
      have hk : k < t.tx.length := by omega
      have he : textT t (k : Int) = t.tx[k] := by unfold textT; rw [if_pos (by omega)]; simp [hk]
      rw [he]
      have hm := reads_few ht.tx
      obtain ⟨b, off, cap, hv, hcap, hblt, hcell⟩ := str_open ht.tx (by omega)
      have hac : x.a4 = some ⟨b, off, none⟩ := by simp at hv; exact hv.1
      obtain ⟨hz, e0⟩ := hcell k hk
      generalize t.tx[k] = s at *
      have hk0 : (0 : Int) ≤ (k : Int) := by omega
      have HE : Hid (W0.cell? ⟨b, off + k, none⟩ = some (.string ⟨s.toArray⟩)) := Lib.hid ((HB0.out.cell (p := ⟨b, off + k, none⟩) hblt).trans e0)
      have HE2 := HE.out
      unfold maxLen at hm
      clear hcell hv ht e0 he
      rw [hac]
      rw [hac] at hW0
      go_enter Tryd.func10, Tryd.ntmps10
      have kt0 := HK0.out.cell 0
      have kt1 := HK0.out.cell 1
      have kt2 := HK0.out.cell 2
      have kt3 := HK0.out.cell 3
      have kt4 := HK0.out.cell 4
      have kt5 := HK0.out.cell 5
      have kt6 := HK0.out.cell 6
      have kt7 := HK0.out.cell 7
      have kt8 := HK0.out.cell 8
      have kt9 := HK0.out.cell 9
      have kt10 := HK0.out.cell 10
      have kt11 := HK0.out.cell 11
      have kt12 := HK0.out.cell 12
      have kt13 := HK0.out.cell 13
      have kt14 := HK0.out.cell 14
      simp only [tabC, List.getElem?_cons_zero, List.getElem?_cons_succ] at kt0 kt1 kt2 kt3 kt4 kt5 kt6 kt7 kt8 kt9 kt10 kt11 kt12 kt13 kt14
      rw [hac] at kt4
      go_wp2
      go_ret
      exact ⟨rfl, HB0.out⟩
    · have he : textT t i = [] := by unfold textT; rw [if_pos h0, List.getD_eq_getElem?_getD, List.getElem?_eq_none (by omega)]; rfl
      rw [he]
      have hm := reads_few ht.tx
      unfold maxLen at hm
      clear he ht
      go_enter Tryd.func10, Tryd.ntmps10
      have kt0 := HK0.out.cell 0
      have kt1 := HK0.out.cell 1
      have kt2 := HK0.out.cell 2
      have kt3 := HK0.out.cell 3
      have kt4 := HK0.out.cell 4
      have kt5 := HK0.out.cell 5
      have kt6 := HK0.out.cell 6
      have kt7 := HK0.out.cell 7
      have kt8 := HK0.out.cell 8
      have kt9 := HK0.out.cell 9
      have kt10 := HK0.out.cell 10
      have kt11 := HK0.out.cell 11
      have kt12 := HK0.out.cell 12
      have kt13 := HK0.out.cell 13
      have kt14 := HK0.out.cell 14
      simp only [tabC, List.getElem?_cons_zero, List.getElem?_cons_succ] at kt0 kt1 kt2 kt3 kt4 kt5 kt6 kt7 kt8 kt9 kt10 kt11 kt12 kt13 kt14
      go_wp2
      go_ret
      exact ⟨rfl, HB0.out⟩
  · have he : textT t i = [] := by unfold textT; rw [if_neg h0]
    rw [he]
    have hm := reads_few ht.tx
    unfold maxLen at hm
    clear he ht
    go_enter Tryd.func10, Tryd.ntmps10
    have kt0 := HK0.out.cell 0
    have kt1 := HK0.out.cell 1
    have kt2 := HK0.out.cell 2
    have kt3 := HK0.out.cell 3
    have kt4 := HK0.out.cell 4
    have kt5 := HK0.out.cell 5
    have kt6 := HK0.out.cell 6
    have kt7 := HK0.out.cell 7
    have kt8 := HK0.out.cell 8
    have kt9 := HK0.out.cell 9
    have kt10 := HK0.out.cell 10
    have kt11 := HK0.out.cell 11
    have kt12 := HK0.out.cell 12
    have kt13 := HK0.out.cell 13
    have kt14 := HK0.out.cell 14
    simp only [tabC, List.getElem?_cons_zero, List.getElem?_cons_succ] at kt0 kt1 kt2 kt3 kt4 kt5 kt6 kt7 kt8 kt9 kt10 kt11 kt12 kt13 kt14
    go_wp2
    go_ret
    exact ⟨rfl, HB0.out⟩
set_option maxRecDepth 100000 in
theorem refTextT (x : TAd) (t : TbC) (i : Int) (w : World) (ht : TabIs w x t) :
    Calls Tryd.prog 11 #[tabV x t, .int .i64 i] w fun e w' => e = .returned (mkS (textT t i)) ∧ Below w.heap.size w w' := by
  unfold mkS
  have HB0 := Lib.hid (bl_tab w x t)
  have HK0 : Hid (BK (tabW w x t) w.heap.size (tabC x t) 28) := Lib.hid (BK.new w (tabC x t) 28)
  obtain ⟨W0, hW0⟩ : ∃ W0, tabW w x t = W0 := ⟨_, rfl⟩
  rw [hW0] at HB0 HK0
  unfold tabW tabC at hW0
  unfold tabV tabC
  by_cases h0 : 0 ≤ i
  · by_cases h1 : i < (t.tx.length : Int)
    · obtain ⟨k, rfl⟩ : ∃ k : Nat, i = k := ⟨i.toNat, by omega⟩
      have hk : k < t.tx.length := by omega
      have he : textT t (k : Int) = t.tx[k] := by unfold textT; rw [if_pos (by omega)]; simp [hk]
      rw [he]
      have hm := reads_few ht.tx
      obtain ⟨b, off, cap, hv, hcap, hblt, hcell⟩ := str_open ht.tx (by omega)
      have hac : x.a4 = some ⟨b, off, none⟩ := by simp at hv; exact hv.1
      obtain ⟨hz, e0⟩ := hcell k hk
      generalize t.tx[k] = s at *
      have hk0 : (0 : Int) ≤ (k : Int) := by omega
      have HE : Hid (W0.cell? ⟨b, off + k, none⟩ = some (.string ⟨s.toArray⟩)) := Lib.hid ((HB0.out.cell (p := ⟨b, off + k, none⟩) hblt).trans e0)
      have HE2 := HE.out
      unfold maxLen at hm
      clear hcell hv ht e0 he
      rw [hac]
      rw [hac] at hW0
      go_enter Tryd.func11, Tryd.ntmps11
      have kt0 := HK0.out.cell 0
      have kt1 := HK0.out.cell 1
      have kt2 := HK0.out.cell 2
      have kt3 := HK0.out.cell 3
      have kt4 := HK0.out.cell 4
      have kt5 := HK0.out.cell 5
      have kt6 := HK0.out.cell 6
      have kt7 := HK0.out.cell 7
      have kt8 := HK0.out.cell 8
      have kt9 := HK0.out.cell 9
      have kt10 := HK0.out.cell 10
      have kt11 := HK0.out.cell 11
      have kt12 := HK0.out.cell 12
      have kt13 := HK0.out.cell 13
      have kt14 := HK0.out.cell 14
      simp only [tabC, List.getElem?_cons_zero, List.getElem?_cons_succ] at kt0 kt1 kt2 kt3 kt4 kt5 kt6 kt7 kt8 kt9 kt10 kt11 kt12 kt13 kt14
      rw [hac] at kt4
      go_wp2
      go_ret
      exact ⟨rfl, HB0.out⟩
    · have he : textT t i = [] := by unfold textT; rw [if_pos h0, List.getD_eq_getElem?_getD, List.getElem?_eq_none (by omega)]; rfl
      rw [he]
      have hm := reads_few ht.tx
      unfold maxLen at hm
      clear he ht
      go_enter Tryd.func11, Tryd.ntmps11
      have kt0 := HK0.out.cell 0
      have kt1 := HK0.out.cell 1
      have kt2 := HK0.out.cell 2
      have kt3 := HK0.out.cell 3
      have kt4 := HK0.out.cell 4
      have kt5 := HK0.out.cell 5
      have kt6 := HK0.out.cell 6
      have kt7 := HK0.out.cell 7
      have kt8 := HK0.out.cell 8
      have kt9 := HK0.out.cell 9
      have kt10 := HK0.out.cell 10
      have kt11 := HK0.out.cell 11
      have kt12 := HK0.out.cell 12
      have kt13 := HK0.out.cell 13
      have kt14 := HK0.out.cell 14
      simp only [tabC, List.getElem?_cons_zero, List.getElem?_cons_succ] at kt0 kt1 kt2 kt3 kt4 kt5 kt6 kt7 kt8 kt9 kt10 kt11 kt12 kt13 kt14
      go_wp2
      go_ret
      exact ⟨rfl, HB0.out⟩
  · have he : textT t i = [] := by unfold textT; rw [if_neg h0]
    rw [he]
    have hm := reads_few ht.tx
    unfold maxLen at hm
    clear he ht
    go_enter Tryd.func11, Tryd.ntmps11
    have kt0 := HK0.out.cell 0
    have kt1 := HK0.out.cell 1
    have kt2 := HK0.out.cell 2
    have kt3 := HK0.out.cell 3
    have kt4 := HK0.out.cell 4
    have kt5 := HK0.out.cell 5
    have kt6 := HK0.out.cell 6
    have kt7 := HK0.out.cell 7
    have kt8 := HK0.out.cell 8
    have kt9 := HK0.out.cell 9
    have kt10 := HK0.out.cell 10
    have kt11 := HK0.out.cell 11
    have kt12 := HK0.out.cell 12
    have kt13 := HK0.out.cell 13
    have kt14 := HK0.out.cell 14
    simp only [tabC, List.getElem?_cons_zero, List.getElem?_cons_succ] at kt0 kt1 kt2 kt3 kt4 kt5 kt6 kt7 kt8 kt9 kt10 kt11 kt12 kt13 kt14
    go_wp2
    go_ret
    exact ⟨rfl, HB0.out⟩
set_option maxRecDepth 100000 in
set_option maxHeartbeats 4000000 in
theorem tellTitle (x : TAd) (t : TbC) (i : Int) (w : World) (ht : TabIs w x t) :
    Calls Tryd.prog 8 #[tabV x t, .int .i64 i] w fun e w' => e = .returned (mkS (titleT t i)) ∧ Below w.heap.size w w' := by
  unfold mkS
  have HB0 := Lib.hid (bl_tab w x t)
  have HK0 : Hid (BK (tabW w x t) w.heap.size (tabC x t) 28) := Lib.hid (BK.new w (tabC x t) 28)
  obtain ⟨W0, hW0⟩ : ∃ W0, tabW w x t = W0 := ⟨_, rfl⟩
  rw [hW0] at HB0 HK0
  unfold tabW tabC at hW0
  unfold tabV tabC
  by_cases h0 : 1 ≤ i
  · by_cases h1 : i < (t.th.length : Int)
    · obtain ⟨k, rfl⟩ : ∃ k : Nat, i = k := ⟨i.toNat, by omega⟩
      have hk : k < t.th.length := by omega
      have he : titleT t (k : Int) = textT t (t.th[k]).ti := by unfold titleT; rw [if_pos (by omega)]; simp [hk]
      rw [he]
      have hm := reads_few ht.th
      obtain ⟨b, off, cap, hv, hcap, hblt, hcell⟩ := th_open ht.th (by omega)
      have hac : x.a8 = some ⟨b, off, none⟩ := by simp at hv; exact hv.1
      obtain ⟨r1, r2, r3, r4, hth, hrow⟩ := hcell k hk
      have e0 := hrow 0 (by decide)
      simp only [thRow, List.getElem?_cons_zero, Nat.add_zero] at e0
      have HTT := Lib.hid (fun w' (hb : Below W0.heap.size W0 w') => tellText x t (t.th[k]).ti w' (ht.below (bl_then HB0.out hb)))
      generalize (t.th[k]).ti = ti at *
      generalize textT t ti = s at *
      have hk0 : (0 : Int) ≤ (k : Int) := by omega
      have hk1 : (k : Int) < (t.th.length : Int) := by omega
      have HE : Hid (W0.cell? ⟨b, off + k * 9, none⟩ = some (.int .i64 ti)) := Lib.hid ((HB0.out.cell (p := ⟨b, off + k * 9, none⟩) hblt).trans e0)
      have HE2 := HE.out
      have hbl0 : b < W0.heap.size := Nat.lt_of_lt_of_le hblt HB0.out.size
      have hwlt : w.heap.size < W0.heap.size := HK0.out.lt
      unfold maxLen at hm
      unfold tabV mkS tabC at HTT
      clear hcell hv ht e0 he hrow hth
      rw [hac] at HTT ⊢
      rw [hac] at hW0
      go_enter Tryd.func8, Tryd.ntmps8
      have kt0 := HK0.out.cell 0
      have kt1 := HK0.out.cell 1
      have kt2 := HK0.out.cell 2
      have kt3 := HK0.out.cell 3
      have kt4 := HK0.out.cell 4
      have kt5 := HK0.out.cell 5
      have kt6 := HK0.out.cell 6
      have kt7 := HK0.out.cell 7
      have kt8 := HK0.out.cell 8
      have kt9 := HK0.out.cell 9
      have kt10 := HK0.out.cell 10
      have kt11 := HK0.out.cell 11
      have kt12 := HK0.out.cell 12
      have kt13 := HK0.out.cell 13
      have kt14 := HK0.out.cell 14
      simp only [tabC, List.getElem?_cons_zero, List.getElem?_cons_succ] at kt0 kt1 kt2 kt3 kt4 kt5 kt6 kt7 kt8 kt9 kt10 kt11 kt12 kt13 kt14
      rw [hac] at kt8
      go_wp2_with fail
      clear hW0
      refine region_text (fun w' => Below W0.heap.size W0 w') (by kernel_rfl) (by kernel_rfl) ((Below.refl _ _).drew) (fun KK hKK => ?_)
      intro OPS
      try simp only [List.append]
      repeat (first
        | (refine' inText_val ?_ ?_ ?_ ?_
           rotate_left 2
           · rfl
           · (intro w' hS; obtain ⟨hcc, hff⟩ := bcell hS; go_simp; try with_reducible rfl)
           · (simp only [Act.put, List.setIfInBounds_toArray, List.set_cons_zero, List.set_cons_succ]; with_reducible rfl))
        | (refine' inText_call ?_ ?_ ?_ ?_ ?_
           rotate_left 4
           · rfl
           · (intro w' hS; obtain ⟨hcc, hff⟩ := bcell hS; go_simp; exact ⟨rfl, rfl⟩)
           · (intro w' hS
              first
                | (go_at_call 10; exact (HTT.out w' hS).mono fun e w'' h => ⟨h.1, bl_then hS h.2⟩))
           · (simp only [Act.put, List.setIfInBounds_toArray, List.set_cons_zero, List.set_cons_succ]; with_reducible rfl)))
      refine inText_nil (hKK.out _ (fun w' hS => ?_))
      have HB9 := Lib.hid (bl_then HB0.out hS)
      clear hS hKK
      go_wp2
      go_ret
      exact ⟨rfl, HB9.out⟩
    · have he : titleT t i = nothingL := by unfold titleT; rw [if_pos h0, List.getElem?_eq_none (by omega)]
      rw [he]
      have hm := reads_few ht.th
      unfold maxLen at hm
      clear he ht
      go_enter Tryd.func8, Tryd.ntmps8
      have kt0 := HK0.out.cell 0
      have kt1 := HK0.out.cell 1
      have kt2 := HK0.out.cell 2
      have kt3 := HK0.out.cell 3
      have kt4 := HK0.out.cell 4
      have kt5 := HK0.out.cell 5
      have kt6 := HK0.out.cell 6
      have kt7 := HK0.out.cell 7
      have kt8 := HK0.out.cell 8
      have kt9 := HK0.out.cell 9
      have kt10 := HK0.out.cell 10
      have kt11 := HK0.out.cell 11
      have kt12 := HK0.out.cell 12
      have kt13 := HK0.out.cell 13
      have kt14 := HK0.out.cell 14
      simp only [tabC, List.getElem?_cons_zero, List.getElem?_cons_succ] at kt0 kt1 kt2 kt3 kt4 kt5 kt6 kt7 kt8 kt9 kt10 kt11 kt12 kt13 kt14
      go_wp2
      go_ret
      exact ⟨rfl, HB0.out⟩
  · have he : titleT t i = nothingL := by unfold titleT; rw [if_neg h0]
    rw [he]
    have hm := reads_few ht.th
    unfold maxLen at hm
    clear he ht
    go_enter Tryd.func8, Tryd.ntmps8
    have kt0 := HK0.out.cell 0
    have kt1 := HK0.out.cell 1
    have kt2 := HK0.out.cell 2
    have kt3 := HK0.out.cell 3
    have kt4 := HK0.out.cell 4
    have kt5 := HK0.out.cell 5
    have kt6 := HK0.out.cell 6
    have kt7 := HK0.out.cell 7
    have kt8 := HK0.out.cell 8
    have kt9 := HK0.out.cell 9
    have kt10 := HK0.out.cell 10
    have kt11 := HK0.out.cell 11
    have kt12 := HK0.out.cell 12
    have kt13 := HK0.out.cell 13
    have kt14 := HK0.out.cell 14
    simp only [tabC, List.getElem?_cons_zero, List.getElem?_cons_succ] at kt0 kt1 kt2 kt3 kt4 kt5 kt6 kt7 kt8 kt9 kt10 kt11 kt12 kt13 kt14
    go_wp2
    go_ret
    exact ⟨rfl, HB0.out⟩
set_option maxRecDepth 100000 in
set_option maxHeartbeats 4000000 in
theorem refTitleT (x : TAd) (t : TbC) (i : Int) (w : World) (ht : TabIs w x t) :
    Calls Tryd.prog 9 #[tabV x t, .int .i64 i] w fun e w' => e = .returned (mkS (titleT t i)) ∧ Below w.heap.size w w' := by
  unfold mkS
  have HB0 := Lib.hid (bl_tab w x t)
  have HK0 : Hid (BK (tabW w x t) w.heap.size (tabC x t) 28) := Lib.hid (BK.new w (tabC x t) 28)
  obtain ⟨W0, hW0⟩ : ∃ W0, tabW w x t = W0 := ⟨_, rfl⟩
  rw [hW0] at HB0 HK0
  unfold tabW tabC at hW0
  unfold tabV tabC
  by_cases h0 : 1 ≤ i
  · by_cases h1 : i < (t.th.length : Int)
    · obtain ⟨k, rfl⟩ : ∃ k : Nat, i = k := ⟨i.toNat, by omega⟩
      have hk : k < t.th.length := by omega
      have he : titleT t (k : Int) = textT t (t.th[k]).ti := by unfold titleT; rw [if_pos (by omega)]; simp [hk]
      rw [he]
      have hm := reads_few ht.th
      obtain ⟨b, off, cap, hv, hcap, hblt, hcell⟩ := th_open ht.th (by omega)
      have hac : x.a8 = some ⟨b, off, none⟩ := by simp at hv; exact hv.1
      obtain ⟨r1, r2, r3, r4, hth, hrow⟩ := hcell k hk
      have e0 := hrow 0 (by decide)
      simp only [thRow, List.getElem?_cons_zero, Nat.add_zero] at e0
      have HTT := Lib.hid (fun w' (hb : Below W0.heap.size W0 w') => refTextT x t (t.th[k]).ti w' (ht.below (bl_then HB0.out hb)))
      generalize (t.th[k]).ti = ti at *
      generalize textT t ti = s at *
      have hk0 : (0 : Int) ≤ (k : Int) := by omega
      have hk1 : (k : Int) < (t.th.length : Int) := by omega
      have HE : Hid (W0.cell? ⟨b, off + k * 9, none⟩ = some (.int .i64 ti)) := Lib.hid ((HB0.out.cell (p := ⟨b, off + k * 9, none⟩) hblt).trans e0)
      have HE2 := HE.out
      have hbl0 : b < W0.heap.size := Nat.lt_of_lt_of_le hblt HB0.out.size
      have hwlt : w.heap.size < W0.heap.size := HK0.out.lt
      unfold maxLen at hm
      unfold tabV mkS tabC at HTT
      clear hcell hv ht e0 he hrow hth
      rw [hac] at HTT ⊢
      rw [hac] at hW0
      go_enter Tryd.func9, Tryd.ntmps9
      have kt0 := HK0.out.cell 0
      have kt1 := HK0.out.cell 1
      have kt2 := HK0.out.cell 2
      have kt3 := HK0.out.cell 3
      have kt4 := HK0.out.cell 4
      have kt5 := HK0.out.cell 5
      have kt6 := HK0.out.cell 6
      have kt7 := HK0.out.cell 7
      have kt8 := HK0.out.cell 8
      have kt9 := HK0.out.cell 9
      have kt10 := HK0.out.cell 10
      have kt11 := HK0.out.cell 11
      have kt12 := HK0.out.cell 12
      have kt13 := HK0.out.cell 13
      have kt14 := HK0.out.cell 14
      simp only [tabC, List.getElem?_cons_zero, List.getElem?_cons_succ] at kt0 kt1 kt2 kt3 kt4 kt5 kt6 kt7 kt8 kt9 kt10 kt11 kt12 kt13 kt14
      rw [hac] at kt8
      go_wp2_with fail
      clear hW0
      refine region_text (fun w' => Below W0.heap.size W0 w') (by kernel_rfl) (by kernel_rfl) ((Below.refl _ _).drew) (fun KK hKK => ?_)
      intro OPS
      try simp only [List.append]
      repeat (first
        | (refine' inText_val ?_ ?_ ?_ ?_
           rotate_left 2
           · rfl
           · (intro w' hS; obtain ⟨hcc, hff⟩ := bcell hS; go_simp; try with_reducible rfl)
           · (simp only [Act.put, List.setIfInBounds_toArray, List.set_cons_zero, List.set_cons_succ]; with_reducible rfl))
        | (refine' inText_call ?_ ?_ ?_ ?_ ?_
           rotate_left 4
           · rfl
           · (intro w' hS; obtain ⟨hcc, hff⟩ := bcell hS; go_simp; exact ⟨rfl, rfl⟩)
           · (intro w' hS
              first
                | (go_at_call 11; exact (HTT.out w' hS).mono fun e w'' h => ⟨h.1, bl_then hS h.2⟩))
           · (simp only [Act.put, List.setIfInBounds_toArray, List.set_cons_zero, List.set_cons_succ]; with_reducible rfl)))
      refine inText_nil (hKK.out _ (fun w' hS => ?_))
      have HB9 := Lib.hid (bl_then HB0.out hS)
      clear hS hKK
      go_wp2
      go_ret
      exact ⟨rfl, HB9.out⟩
    · have he : titleT t i = nothingL := by unfold titleT; rw [if_pos h0, List.getElem?_eq_none (by omega)]
      rw [he]
      have hm := reads_few ht.th
      unfold maxLen at hm
      clear he ht
      go_enter Tryd.func9, Tryd.ntmps9
      have kt0 := HK0.out.cell 0
      have kt1 := HK0.out.cell 1
      have kt2 := HK0.out.cell 2
      have kt3 := HK0.out.cell 3
      have kt4 := HK0.out.cell 4
      have kt5 := HK0.out.cell 5
      have kt6 := HK0.out.cell 6
      have kt7 := HK0.out.cell 7
      have kt8 := HK0.out.cell 8
      have kt9 := HK0.out.cell 9
      have kt10 := HK0.out.cell 10
      have kt11 := HK0.out.cell 11
      have kt12 := HK0.out.cell 12
      have kt13 := HK0.out.cell 13
      have kt14 := HK0.out.cell 14
      simp only [tabC, List.getElem?_cons_zero, List.getElem?_cons_succ] at kt0 kt1 kt2 kt3 kt4 kt5 kt6 kt7 kt8 kt9 kt10 kt11 kt12 kt13 kt14
      go_wp2
      go_ret
      exact ⟨rfl, HB0.out⟩
  · have he : titleT t i = nothingL := by unfold titleT; rw [if_neg h0]
    rw [he]
    have hm := reads_few ht.th
    unfold maxLen at hm
    clear he ht
    go_enter Tryd.func9, Tryd.ntmps9
    have kt0 := HK0.out.cell 0
    have kt1 := HK0.out.cell 1
    have kt2 := HK0.out.cell 2
    have kt3 := HK0.out.cell 3
    have kt4 := HK0.out.cell 4
    have kt5 := HK0.out.cell 5
    have kt6 := HK0.out.cell 6
    have kt7 := HK0.out.cell 7
    have kt8 := HK0.out.cell 8
    have kt9 := HK0.out.cell 9
    have kt10 := HK0.out.cell 10
    have kt11 := HK0.out.cell 11
    have kt12 := HK0.out.cell 12
    have kt13 := HK0.out.cell 13
    have kt14 := HK0.out.cell 14
    simp only [tabC, List.getElem?_cons_zero, List.getElem?_cons_succ] at kt0 kt1 kt2 kt3 kt4 kt5 kt6 kt7 kt8 kt9 kt10 kt11 kt12 kt13 kt14
    go_wp2
    go_ret
    exact ⟨rfl, HB0.out⟩
end Go.Proofs.YtjnpinfnpnohmaaDoor
