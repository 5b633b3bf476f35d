/- clewlaw24's hall: its tables and its world.; clewlaw24's awake: it answers true. -/
import Derived.Test.YtjnpinfnpnohmaaDoorTell5
namespace Go.Proofs.YtjnpinfnpnohmaaDoor
open Go.RowKit Go.PlainAid
set_option linter.unusedVariables false
set_option linter.unusedSimpArgs false

def hth (ti tx pa fl : Int) (rm : Bool) : ThC := ⟨ti, tx, pa, fl, rm, [], [], [], []⟩
def hallTx : List TxC := [[84, 97, 108, 101], [121, 111, 117, 114, 115, 101, 108, 102], [72, 97, 108, 108], [108, 97, 109, 112], [98, 111, 120]]
def hallTh : List ThC := [hth 0 (-1) 0 0 false, hth 1 (-1) 2 0 false, hth 2 (-1) 0 1 true, hth 3 (-1) 2 0 false, hth 4 (-1) 2 0 false]
def hallT : TbC := ⟨0, 0, 0, 10, hallTx, 4, [], [], hallTh, [], [], [], [], [], []⟩
def hallX (k : Nat) : TAd := ⟨some ⟨k, 0, none⟩, none, none, some ⟨k + 1, 0, none⟩, none, none, none, none, none, none, 5, 0, 0, 5, 0, 0, 0, 0, 0, 0⟩
def hallD : WdC := ⟨[], [0, 2, 0, 2, 2], [0, 0, 1, 0, 0], [0, 3, 0, 4, 0], [0, 0, 1, 0, 0], [], []⟩
def hallQ (k : Nat) : Wv := ⟨none, some ⟨k, 0, none⟩, some ⟨k + 1, 0, none⟩, some ⟨k + 1 + 1, 0, none⟩, some ⟨k + 1 + 1 + 1, 0, none⟩, none, none, 0, 5, 5, 5, 5, 0, 0, 0, 5, 5, 5, 5, 0, 0, 1, 0, 0, 0, 0, 0⟩
def thR (x : ThC) : List Value := thRow x nilV nilV nilV nilV
def hallRows : List Value := [thR (hth 0 (-1) 0 0 false), thR (hth 1 (-1) 2 0 false), thR (hth 2 (-1) 0 1 true), thR (hth 3 (-1) 2 0 false), thR (hth 4 (-1) 2 0 false)].flatten
theorem rowI_nil (w : World) : RowI w (.slice none 0 0) [] := ⟨none, 0, rfl, Nat.zero_le _, Nat.le_refl _, fun i h => absurd h (Nat.not_lt_zero _)⟩
theorem rowI_lit {w : World} {k n c : Nat} {l : List Int} {T : TypeId} (h : BK w k (l.map (.int .i64)) T) (hn : l.length = n) (hc : n ≤ c) (hm : n ≤ maxLen) (hw : ∀ x ∈ l, (Lit.int .i64 x).wf = true) : RowI w (.slice (some ⟨k, 0, none⟩) n c) l := by
  subst hn
  refine ⟨_, c, rfl, hm, hc, fun i hi => ⟨k, 0, rfl, h.lt, ?_, hw _ (List.getElem_mem _)⟩⟩
  rw [Nat.zero_add, h.cell]; simp [hi]
theorem reads_nilEh {α : Type} {c : Cd α} (w : World) : Reads c.seq w nilV [] := ⟨_, [], rfl, ⟨SLN.nil _ _ _ _, none, 0, rfl, Nat.le_refl _⟩, rfl, fun i h => by cases h⟩
theorem reads_nilh {α : Type} {c : Cd α} (w : World) : Reads c.sq w nilV [] := ⟨reads_nilEh w, Nat.zero_le _⟩
theorem th_lith (w : World) (ti tx pa fl : Int) (rm : Bool) (h0 : I64 ti) (h1 : I64 tx) (h2 : I64 pa) (h3 : I64 fl) : ThIs w nilV nilV nilV nilV (hth ti tx pa fl rm) :=
  ⟨reads_nilh w, reads_nilh w, reads_nilh w, reads_nilh w, h0, h1, h2, h3⟩
theorem hall_is {w : World} {k : Nat} (h1 : BK w k (hallTx.map mkS) 9) (h2 : BK w (k + 1) hallRows 51) : TabIs w (hallX k) hallT := by
  refine ⟨?_, reads_nilh w, reads_nilh w, ?_, reads_nilh w, reads_nilh w, reads_nilh w, reads_nilh w, reads_nilh w, reads_nilh w, rfl, rfl, rfl, rfl, rfl⟩
  · refine ⟨⟨_, hallTx.map (fun s => [mkS s]), rfl, ⟨⟨by decide, (by intro r hr; simp [hallTx] at hr; rcases hr with rfl | rfl | rfl | rfl | rfl <;> rfl), .inr ⟨k, 0, 5, rfl, h1.lt, fun i j hi hj => ?_⟩⟩, some ⟨k, 0, none⟩, 5, rfl, by decide⟩, rfl, fun i a b => ?_⟩, by decide⟩
    · have hi5 : i < 5 := by simpa [hallTx] using hi
      have hj0 : j = 0 := by have : j < 1 := hj; omega
      subst hj0
      show w.cell? ⟨k, 0 + i * 1 + 0, none⟩ = _
      rw [h1.cell, Nat.zero_add]
      match i, hi5 with
      | 0, _ | 1, _ | 2, _ | 3, _ | 4, _ => rfl
    · have hi5 : i < 5 := by simpa [hallTx] using a
      match i, hi5 with
      | 0, _ | 1, _ | 2, _ | 3, _ | 4, _ => exact ⟨rfl, of_decide_eq_true rfl⟩
  · refine ⟨⟨_, hallTh.map thR, rfl, ⟨⟨by decide, (by intro r hr; simp [hallTh] at hr; rcases hr with rfl | rfl | rfl | rfl | rfl <;> rfl), .inr ⟨k + 1, 0, 5, rfl, h2.lt, fun i j hi hj => ?_⟩⟩, some ⟨k + 1, 0, none⟩, 5, rfl, by decide⟩, rfl, fun i a b => ?_⟩, by decide⟩
    · have hi5 : i < 5 := by simpa [hallTh] using hi
      have hj9 : j < 9 := hj
      show w.cell? ⟨k + 1, 0 + i * 9 + j, none⟩ = _
      rw [h2.cell, Nat.zero_add]
      match i, hi5 with
      | 0, _ | 1, _ | 2, _ | 3, _ | 4, _ => match j, hj9 with
        | 0, _ | 1, _ | 2, _ | 3, _ | 4, _ | 5, _ | 6, _ | 7, _ | 8, _ => rfl
    · have hi5 : i < 5 := by simpa [hallTh] using a
      match i, hi5 with
      | 0, _ => exact ⟨_, _, _, _, rfl, th_lith w 0 (-1) 0 0 false rfl rfl rfl rfl⟩
      | 1, _ => exact ⟨_, _, _, _, rfl, th_lith w 1 (-1) 2 0 false rfl rfl rfl rfl⟩
      | 2, _ => exact ⟨_, _, _, _, rfl, th_lith w 2 (-1) 0 1 true rfl rfl rfl rfl⟩
      | 3, _ => exact ⟨_, _, _, _, rfl, th_lith w 3 (-1) 2 0 false rfl rfl rfl rfl⟩
      | 4, _ => exact ⟨_, _, _, _, rfl, th_lith w 4 (-1) 2 0 false rfl rfl rfl rfl⟩
theorem hall_nest : NestW hallD.pa hallD.ch hallD.nx 5 := by
  refine NestedP.nest ⟨fun x hx => ?_⟩
  unfold isW at hx
  have h := of_decide_eq_true hx
  obtain rfl | rfl | rfl | rfl : x = 1 ∨ x = 2 ∨ x = 3 ∨ x = 4 := by omega
  all_goals decide
theorem hall_ok {w : World} {k : Nat} (h1 : BK w k ([0, 2, 0, 2, 2].map (.int .i64)) 3) (h2 : BK w (k + 1) ([0, 0, 1, 0, 0].map (.int .i64)) 3) (h3 : BK w (k + 1 + 1) ([0, 3, 0, 4, 0].map (.int .i64)) 3) (h4 : BK w (k + 1 + 1 + 1) ([0, 0, 1, 0, 0].map (.int .i64)) 3) : WOk w (hallQ k) hallD 5 where
  is := ⟨rowI_nil w, rowI_lit h1 rfl (Nat.le_refl 5) (of_decide_eq_true rfl : 5 ≤ maxLen) (by decide), rowI_lit h2 rfl (Nat.le_refl 5) (of_decide_eq_true rfl : 5 ≤ maxLen) (by decide), rowI_lit h3 rfl (Nat.le_refl 5) (of_decide_eq_true rfl : 5 ≤ maxLen) (by decide), rowI_lit h4 rfl (Nat.le_refl 5) (of_decide_eq_true rfl : 5 ≤ maxLen) (by decide), rowI_nil w, rowI_nil w, rfl, rfl, rfl, rfl, rfl⟩
  len := ⟨rfl, rfl, rfl, by decide⟩
  l4 := rfl
  pos := by decide
  few := by decide
  fl := by decide
  nest := hall_nest
theorem hall_tw : TW hallT 5 := ⟨rfl, by decide, by decide⟩
theorem hall_look : lookT hallT hallD 5 = [72, 97, 108, 108, 10, 89, 111, 117, 32, 115, 101, 101, 32, 108, 97, 109, 112, 32, 97, 110, 100, 32, 98, 111, 120, 46, 10] := by decide +kernel
theorem hall_title : titleT hallT 0 = [110, 111, 116, 104, 105, 110, 103] := by decide +kernel
theorem hall_list : rowT (titlesL hallT hallD.fl (kidsW hallD.ch hallD.nx 5 3)) = [110, 111, 116, 104, 105, 110, 103] := by decide +kernel
theorem hall_status (k : Nat) : statusT hallT (hallQ k) hallD 5 = [72, 97, 108, 108, 44, 32, 115, 99, 111, 114, 101, 32, 48, 32, 111, 102, 32, 49, 48, 44, 32, 116, 117, 114, 110, 32, 48] := by
  show statusT hallT (hallQ 0) hallD 5 = _
  decide +kernel
theorem bk_at2 (w : World) (A0 A1 : Obj) (cs : List Value) (T : TypeId) : BK (((w.alloc A0).alloc A1).alloc (.cells cs.toArray T)) (w.heap.size + 1 + 1) cs T := by
  have := BK.new ((w.alloc A0).alloc A1) cs T
  simp only [World.size_alloc] at this; exact this
theorem bk_at3 (w : World) (A0 A1 A2 : Obj) (cs : List Value) (T : TypeId) : BK ((((w.alloc A0).alloc A1).alloc A2).alloc (.cells cs.toArray T)) (w.heap.size + 1 + 1 + 1) cs T := by
  have := BK.new (((w.alloc A0).alloc A1).alloc A2) cs T
  simp only [World.size_alloc] at this; exact this
theorem bk_at5 (w : World) (A0 A1 A2 A3 A4 : Obj) (cs : List Value) (T : TypeId) : BK ((((((w.alloc A0).alloc A1).alloc A2).alloc A3).alloc A4).alloc (.cells cs.toArray T)) (w.heap.size + 1 + 1 + 1 + 1 + 1) cs T := by
  have := BK.new (((((w.alloc A0).alloc A1).alloc A2).alloc A3).alloc A4) cs T
  simp only [World.size_alloc] at this; exact this
theorem bk_at6 (w : World) (A0 A1 A2 A3 A4 A5 : Obj) (cs : List Value) (T : TypeId) : BK (((((((w.alloc A0).alloc A1).alloc A2).alloc A3).alloc A4).alloc A5).alloc (.cells cs.toArray T)) (w.heap.size + 1 + 1 + 1 + 1 + 1 + 1) cs T := by
  have := BK.new ((((((w.alloc A0).alloc A1).alloc A2).alloc A3).alloc A4).alloc A5) cs T
  simp only [World.size_alloc] at this; exact this
theorem bk_at7 (w : World) (A0 A1 A2 A3 A4 A5 A6 : Obj) (cs : List Value) (T : TypeId) : BK ((((((((w.alloc A0).alloc A1).alloc A2).alloc A3).alloc A4).alloc A5).alloc A6).alloc (.cells cs.toArray T)) (w.heap.size + 1 + 1 + 1 + 1 + 1 + 1 + 1) cs T := by
  have := BK.new (((((((w.alloc A0).alloc A1).alloc A2).alloc A3).alloc A4).alloc A5).alloc A6) cs T
  simp only [World.size_alloc] at this; exact this
theorem bk_at8 (w : World) (A0 A1 A2 A3 A4 A5 A6 A7 : Obj) (cs : List Value) (T : TypeId) : BK (((((((((w.alloc A0).alloc A1).alloc A2).alloc A3).alloc A4).alloc A5).alloc A6).alloc A7).alloc (.cells cs.toArray T)) (w.heap.size + 1 + 1 + 1 + 1 + 1 + 1 + 1 + 1) cs T := by
  have := BK.new ((((((((w.alloc A0).alloc A1).alloc A2).alloc A3).alloc A4).alloc A5).alloc A6).alloc A7) cs T
  simp only [World.size_alloc] at this; exact this
set_option maxRecDepth 100000 in
set_option maxHeartbeats 8000000 in
theorem hallC (w : World) : Calls Tryd.prog 31 #[] w fun e w' => ∃ a b, e = .returned (.tuple #[tabV (hallX a) hallT, worldV (hallQ b)]) ∧ TabIs w' (hallX a) hallT ∧ WOk w' (hallQ b) hallD 5 ∧ Below w.heap.size w w' := by
  go_enter Tryd.func31, Tryd.ntmps31
  go_wp2
  refine bodyPost_ret (v := .tuple #[tabV (hallX (w.heap.size + 1 + 1)) hallT, worldV (hallQ (w.heap.size + 1 + 1 + 1 + 1 + 1))]) ?_ rfl ⟨_, _, rfl, hall_is ?_ ?_, hall_ok ?_ ?_ ?_ ?_, bl_a (bl_a (bl_a (bl_a (bl_a (bl_a (bl_a (bl_a (bl_a (Below.refl _ _) _) _) _) _) _) _) _) _) _⟩
  · simp [results, Tryd.results31, go_sem]
    exact ⟨rfl, rfl⟩
  · refine BK.alloc (BK.alloc (BK.alloc (BK.alloc (BK.alloc (BK.alloc ?_ _) _) _) _) _) _
    exact bk_at2 _ _ _ _ _
  · refine BK.alloc (BK.alloc (BK.alloc (BK.alloc (BK.alloc ?_ _) _) _) _) _
    exact bk_at3 _ _ _ _ _ _
  · refine BK.alloc (BK.alloc (BK.alloc ?_ _) _) _
    exact bk_at5 _ _ _ _ _ _ _ _
  · refine BK.alloc (BK.alloc ?_ _) _
    exact bk_at6 _ _ _ _ _ _ _ _ _
  · refine BK.alloc ?_ _
    exact bk_at7 _ _ _ _ _ _ _ _ _ _
  · exact bk_at8 _ _ _ _ _ _ _ _ _ _ _
end Go.Proofs.YtjnpinfnpnohmaaDoor
namespace Go.Proofs.YtjnpinfnpnohmaaDoor
open Go.RowKit Go.PlainAid
set_option linter.unusedVariables false
set_option linter.unusedSimpArgs false

set_option maxRecDepth 100000 in
set_option maxHeartbeats 8000000 in
theorem awake24 (w : World) (htab : Lib.TabIs Tryd.prog w "internal/strconv.uint64pow10" .u64 Lib.pow10Tab) : Calls Tryd.prog 12 #[] w fun e w' => e = .returned (.bool true) ∧ Below w.heap.size w w' := by
  have HTAB := Lib.hid (fun w' hb => tab_belowT htab (w' := w') hb)
  clear htab
  go_enter Tryd.func12, Tryd.ntmps12
  go_wp2_with fail
  refine (hallC _).mono ?_
  rintro e w1 ⟨a, b, rfl, ht, hw, hb1⟩
  have hnew := Two.new (hallX a) hallT (hallQ b) w1
  have HL := Lib.hid (fun w' (hb : Below w1.heap.size w1 w') => lookC (hallX a) hallT (hallQ b) hallD 5 w' (ht.below hb) (hw.below hb) hall_tw)
  have HT := Lib.hid (fun w' (hb : Below w1.heap.size w1 w') => tellTitle (hallX a) hallT 0 w' (ht.below hb))
  have HS := Lib.hid (fun w' (hb : Below w1.heap.size w1 w') => statusC (hallX a) hallT (hallQ b) hallD 5 w' (ht.below hb) (hw.below hb) hall_tw (HTAB.out _ (bl_then hb1 hb)))
  have HLi := Lib.hid (fun w' (hb : Below w1.heap.size w1 w') => listC (hallX a) hallT (hallQ b) hallD 5 3 w' (ht.below hb) (hw.below hb) hall_tw.tx)
  rw [hall_look] at HL
  rw [hall_title] at HT
  rw [hall_status] at HS
  rw [hall_list] at HLi
  clear ht hw
  generalize hallX a = x at *
  generalize hallT = t at *
  generalize hallQ b = q at *
  obtain ⟨W0, hW0⟩ : ∃ W0, (w1.alloc (.cells (tabC x t).toArray 28)).alloc (.cells (worldC q).toArray 34) = W0 := ⟨_, rfl⟩
  rw [hW0] at hnew
  have HB1 := Lib.hid hb1
  clear hb1
  unfold tabV worldV mkS at *
  unfold worldC at HL HS HLi hW0 ⊢
  unfold tabC at HL HT HS HLi hW0 ⊢
  have HTW := Lib.hid (hnew)
  have HTWt := Lib.hid HTW.out.bt
  have HTWw := Lib.hid HTW.out.bw
  have kt0 := HTWt.out.cell 0
  have kt1 := HTWt.out.cell 1
  have kt2 := HTWt.out.cell 2
  have kt3 := HTWt.out.cell 3
  have kt4 := HTWt.out.cell 4
  have kt5 := HTWt.out.cell 5
  have kt6 := HTWt.out.cell 6
  have kt7 := HTWt.out.cell 7
  have kt8 := HTWt.out.cell 8
  have kt9 := HTWt.out.cell 9
  have kt10 := HTWt.out.cell 10
  have kt11 := HTWt.out.cell 11
  have kt12 := HTWt.out.cell 12
  have kt13 := HTWt.out.cell 13
  have kt14 := HTWt.out.cell 14
  simp only [tabC, List.getElem?_cons_zero, List.getElem?_cons_succ] at kt0 kt1 kt2 kt3 kt4 kt5 kt6 kt7 kt8 kt9 kt10 kt11 kt12 kt13 kt14
  have b0 := HTWw.out.cell 0
  have b1 := HTWw.out.cell 1
  have b2 := HTWw.out.cell 2
  have b3 := HTWw.out.cell 3
  have b4 := HTWw.out.cell 4
  have b5 := HTWw.out.cell 5
  have b6 := HTWw.out.cell 6
  have b7 := HTWw.out.cell 7
  have b8 := HTWw.out.cell 8
  have b9 := HTWw.out.cell 9
  have bA := HTWw.out.cell 10
  have bB := HTWw.out.cell 11
  have bC := HTWw.out.cell 12
  simp only [worldC, List.getElem?_cons_zero, List.getElem?_cons_succ] at b0 b1 b2 b3 b4 b5 b6 b7 b8 b9 bA bB bC
  clear hnew
  go_wp2_with fail
  clear hW0
  go_wp2_with (first
    | (go_at_call 17
       with_reducible refine (HL.out _ HTW.out.bl).mono ?_
       rintro e w' ⟨rfl, hb'⟩
       have hnew := HTW.out.below hb'
       clear hb'
       clear kt0 kt1 kt2 kt3 kt4 kt5 kt6 kt7 kt8 kt9 kt10 kt11 kt12 kt13 kt14
       clear b0 b1 b2 b3 b4 b5 b6 b7 b8 b9 bA bB bC
       clear HTWt HTWw
       clear HTW
       have HTW := Lib.hid (hnew)
       have HTWt := Lib.hid HTW.out.bt
       have HTWw := Lib.hid HTW.out.bw
       have kt0 := HTWt.out.cell 0
       have kt1 := HTWt.out.cell 1
       have kt2 := HTWt.out.cell 2
       have kt3 := HTWt.out.cell 3
       have kt4 := HTWt.out.cell 4
       have kt5 := HTWt.out.cell 5
       have kt6 := HTWt.out.cell 6
       have kt7 := HTWt.out.cell 7
       have kt8 := HTWt.out.cell 8
       have kt9 := HTWt.out.cell 9
       have kt10 := HTWt.out.cell 10
       have kt11 := HTWt.out.cell 11
       have kt12 := HTWt.out.cell 12
       have kt13 := HTWt.out.cell 13
       have kt14 := HTWt.out.cell 14
       simp only [tabC, List.getElem?_cons_zero, List.getElem?_cons_succ] at kt0 kt1 kt2 kt3 kt4 kt5 kt6 kt7 kt8 kt9 kt10 kt11 kt12 kt13 kt14
       have b0 := HTWw.out.cell 0
       have b1 := HTWw.out.cell 1
       have b2 := HTWw.out.cell 2
       have b3 := HTWw.out.cell 3
       have b4 := HTWw.out.cell 4
       have b5 := HTWw.out.cell 5
       have b6 := HTWw.out.cell 6
       have b7 := HTWw.out.cell 7
       have b8 := HTWw.out.cell 8
       have b9 := HTWw.out.cell 9
       have bA := HTWw.out.cell 10
       have bB := HTWw.out.cell 11
       have bC := HTWw.out.cell 12
       simp only [worldC, List.getElem?_cons_zero, List.getElem?_cons_succ] at b0 b1 b2 b3 b4 b5 b6 b7 b8 b9 bA bB bC
       clear hnew)
    | (go_at_call 8
       with_reducible refine (HT.out _ HTW.out.bl).mono ?_
       rintro e w' ⟨rfl, hb'⟩
       have hnew := HTW.out.below hb'
       clear hb'
       clear kt0 kt1 kt2 kt3 kt4 kt5 kt6 kt7 kt8 kt9 kt10 kt11 kt12 kt13 kt14
       clear b0 b1 b2 b3 b4 b5 b6 b7 b8 b9 bA bB bC
       clear HTWt HTWw
       clear HTW
       have HTW := Lib.hid (hnew)
       have HTWt := Lib.hid HTW.out.bt
       have HTWw := Lib.hid HTW.out.bw
       have kt0 := HTWt.out.cell 0
       have kt1 := HTWt.out.cell 1
       have kt2 := HTWt.out.cell 2
       have kt3 := HTWt.out.cell 3
       have kt4 := HTWt.out.cell 4
       have kt5 := HTWt.out.cell 5
       have kt6 := HTWt.out.cell 6
       have kt7 := HTWt.out.cell 7
       have kt8 := HTWt.out.cell 8
       have kt9 := HTWt.out.cell 9
       have kt10 := HTWt.out.cell 10
       have kt11 := HTWt.out.cell 11
       have kt12 := HTWt.out.cell 12
       have kt13 := HTWt.out.cell 13
       have kt14 := HTWt.out.cell 14
       simp only [tabC, List.getElem?_cons_zero, List.getElem?_cons_succ] at kt0 kt1 kt2 kt3 kt4 kt5 kt6 kt7 kt8 kt9 kt10 kt11 kt12 kt13 kt14
       have b0 := HTWw.out.cell 0
       have b1 := HTWw.out.cell 1
       have b2 := HTWw.out.cell 2
       have b3 := HTWw.out.cell 3
       have b4 := HTWw.out.cell 4
       have b5 := HTWw.out.cell 5
       have b6 := HTWw.out.cell 6
       have b7 := HTWw.out.cell 7
       have b8 := HTWw.out.cell 8
       have b9 := HTWw.out.cell 9
       have bA := HTWw.out.cell 10
       have bB := HTWw.out.cell 11
       have bC := HTWw.out.cell 12
       simp only [worldC, List.getElem?_cons_zero, List.getElem?_cons_succ] at b0 b1 b2 b3 b4 b5 b6 b7 b8 b9 bA bB bC
       clear hnew)
    | (go_at_call 19
       with_reducible refine (HS.out _ HTW.out.bl).mono ?_
       rintro e w' ⟨rfl, hb'⟩
       have hnew := HTW.out.below hb'
       clear hb'
       clear kt0 kt1 kt2 kt3 kt4 kt5 kt6 kt7 kt8 kt9 kt10 kt11 kt12 kt13 kt14
       clear b0 b1 b2 b3 b4 b5 b6 b7 b8 b9 bA bB bC
       clear HTWt HTWw
       clear HTW
       have HTW := Lib.hid (hnew)
       have HTWt := Lib.hid HTW.out.bt
       have HTWw := Lib.hid HTW.out.bw
       have kt0 := HTWt.out.cell 0
       have kt1 := HTWt.out.cell 1
       have kt2 := HTWt.out.cell 2
       have kt3 := HTWt.out.cell 3
       have kt4 := HTWt.out.cell 4
       have kt5 := HTWt.out.cell 5
       have kt6 := HTWt.out.cell 6
       have kt7 := HTWt.out.cell 7
       have kt8 := HTWt.out.cell 8
       have kt9 := HTWt.out.cell 9
       have kt10 := HTWt.out.cell 10
       have kt11 := HTWt.out.cell 11
       have kt12 := HTWt.out.cell 12
       have kt13 := HTWt.out.cell 13
       have kt14 := HTWt.out.cell 14
       simp only [tabC, List.getElem?_cons_zero, List.getElem?_cons_succ] at kt0 kt1 kt2 kt3 kt4 kt5 kt6 kt7 kt8 kt9 kt10 kt11 kt12 kt13 kt14
       have b0 := HTWw.out.cell 0
       have b1 := HTWw.out.cell 1
       have b2 := HTWw.out.cell 2
       have b3 := HTWw.out.cell 3
       have b4 := HTWw.out.cell 4
       have b5 := HTWw.out.cell 5
       have b6 := HTWw.out.cell 6
       have b7 := HTWw.out.cell 7
       have b8 := HTWw.out.cell 8
       have b9 := HTWw.out.cell 9
       have bA := HTWw.out.cell 10
       have bB := HTWw.out.cell 11
       have bC := HTWw.out.cell 12
       simp only [worldC, List.getElem?_cons_zero, List.getElem?_cons_succ] at b0 b1 b2 b3 b4 b5 b6 b7 b8 b9 bA bB bC
       clear hnew)
    | (go_at_call 15
       with_reducible refine (HLi.out _ HTW.out.bl).mono ?_
       rintro e w' ⟨rfl, hb'⟩
       have hnew := HTW.out.below hb'
       clear hb'
       clear kt0 kt1 kt2 kt3 kt4 kt5 kt6 kt7 kt8 kt9 kt10 kt11 kt12 kt13 kt14
       clear b0 b1 b2 b3 b4 b5 b6 b7 b8 b9 bA bB bC
       clear HTWt HTWw
       clear HTW
       have HTW := Lib.hid (hnew)
       have HTWt := Lib.hid HTW.out.bt
       have HTWw := Lib.hid HTW.out.bw
       have kt0 := HTWt.out.cell 0
       have kt1 := HTWt.out.cell 1
       have kt2 := HTWt.out.cell 2
       have kt3 := HTWt.out.cell 3
       have kt4 := HTWt.out.cell 4
       have kt5 := HTWt.out.cell 5
       have kt6 := HTWt.out.cell 6
       have kt7 := HTWt.out.cell 7
       have kt8 := HTWt.out.cell 8
       have kt9 := HTWt.out.cell 9
       have kt10 := HTWt.out.cell 10
       have kt11 := HTWt.out.cell 11
       have kt12 := HTWt.out.cell 12
       have kt13 := HTWt.out.cell 13
       have kt14 := HTWt.out.cell 14
       simp only [tabC, List.getElem?_cons_zero, List.getElem?_cons_succ] at kt0 kt1 kt2 kt3 kt4 kt5 kt6 kt7 kt8 kt9 kt10 kt11 kt12 kt13 kt14
       have b0 := HTWw.out.cell 0
       have b1 := HTWw.out.cell 1
       have b2 := HTWw.out.cell 2
       have b3 := HTWw.out.cell 3
       have b4 := HTWw.out.cell 4
       have b5 := HTWw.out.cell 5
       have b6 := HTWw.out.cell 6
       have b7 := HTWw.out.cell 7
       have b8 := HTWw.out.cell 8
       have b9 := HTWw.out.cell 9
       have bA := HTWw.out.cell 10
       have bB := HTWw.out.cell 11
       have bC := HTWw.out.cell 12
       simp only [worldC, List.getElem?_cons_zero, List.getElem?_cons_succ] at b0 b1 b2 b3 b4 b5 b6 b7 b8 b9 bA bB bC
       clear hnew))
  go_ret
  exact ⟨rfl, bl_then HB1.out HTW.out.bl⟩
end Go.Proofs.YtjnpinfnpnohmaaDoor
