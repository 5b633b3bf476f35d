/- Contract of clewref24.row.; Contract of clewref24.List; a World that came in; what Fits and Right let through. -/
import Derived.Test.YtjnpinfnpnohmaaDoorRef21
import Derived.Test.YtjnpinfnpnohmaaDoorTell4
import Derived.Test.YtjnpinfnpnohmaaDoorRef25
import Derived.Test.YtjnpinfnpnohmaaDoorRef27
namespace Go.Proofs.YtjnpinfnpnohmaaDoor
open Go.RowKit Go.PlainAid
set_option linter.unusedVariables false
set_option linter.unusedSimpArgs false

/-- Numbers at a place, with room behind them. -/
def RowL (w : World) (b o c : Nat) (L : List Int) : Prop := L.length ≤ c ∧ b < w.heap.size ∧ ∀ i (h : i < L.length), w.cell? ⟨b, o + i, none⟩ = some (.int .i64 L[i])
theorem RowL.below {w w' : World} {b o c : Nat} {L : List Int} (h : RowL w b o c L) (hb : Below w.heap.size w w') : RowL w' b o c L :=
  ⟨h.1, Nat.lt_of_lt_of_le h.2.1 hb.size, fun i hi => (hb.cell (p := ⟨b, o + i, none⟩) h.2.1).trans (h.2.2 i hi)⟩
theorem RowL.tail {w : World} {b o c : Nat} {y : Int} {L : List Int} (h : RowL w b o c (y :: L)) : RowL w b (o + 1) (c - 1) L :=
  ⟨by have := h.1; simp at this; omega, h.2.1, fun i hi => by have := h.2.2 (i + 1) (by simp; omega); rw [show o + 1 + i = o + (i + 1) by omega]; simpa using this⟩
/-- A row's titles. -/
def rowL (t : TbC) (L : List Int) : TxC := rowR anL coL (L.map (titleT t))
theorem rowL_le {t : TbC} (h : ∀ s ∈ t.tx, s.length ≤ 1024) {L : List Int} : (rowL t L).length ≤ (L.length + 1) * 1030 := by
  unfold rowL
  cases L with
  | nil => simp [rowR]
  | cons y L =>
    rw [List.map_cons, row_tail, List.length_append]
    have h1 := title_le h y
    have h2 := tail_le (an := anL) (co := coL) (by decide) (by decide) (L.map (titleT t)) (fun s hs => by obtain ⟨z, _, rfl⟩ := List.mem_map.1 hs; exact title_le h z)
    rw [List.length_map] at h2
    simp only [List.length_cons]
    omega
set_option maxRecDepth 100000 in
set_option maxHeartbeats 8000000 in
theorem refRow (x : TAd) (t : TbC) (hT : ∀ s ∈ t.tx, s.length ≤ 1024) : ∀ (L : List Int) (b o c : Nat) (w : World), 0 < L.length → L.length ≤ 1000 → TabIs w x t → RowL w b o c L →
    Calls Tryd.prog 43 #[tabV x t, .slice (some ⟨b, o, none⟩) L.length c] w fun e w' => e = .returned (mkS (rowL t L)) ∧ Below w.heap.size w w'
  | [], b, o, c, w => fun h => absurd h (by decide)
  | [y], b, o, c, w => fun _ _ ht hr => by
    have hbk := BK.new w (tabC x t) 28
    have hb0 := bl_a (Below.refl w.heap.size w) (.cells (tabC x t).toArray 28)
    obtain ⟨W0, hW0⟩ : ∃ W0, w.alloc (.cells (tabC x t).toArray 28) = W0 := ⟨_, rfl⟩
    rw [hW0] at hbk hb0
    have HT := Lib.hid (fun w' (hb : Below W0.heap.size W0 w') => refTitleT x t y w' (ht.below (bl_then hb0 hb)))
    have HU := HT
    have HB0 := Lib.hid hb0
    have HBK := Lib.hid hbk
    have hlt0 : w.heap.size < W0.heap.size := hbk.lt
    have hr0 := hr.below hb0
    obtain ⟨hc, hb, hcs⟩ := hr0
    have hc0 := hcs 0 (by simp)
    simp only [List.getElem_cons_zero, Nat.add_zero] at hc0
    rw [show rowL t [y] = titleT t y from rfl]
    generalize titleT t y = ti at *
    clear ht hb0 hbk hr hcs
    unfold tabV mkS at *
    unfold tabC at HT HU hW0 ⊢
    simp only [List.length_cons, List.length_nil] at hc ⊢
    go_enter Tryd.func43, Tryd.ntmps43
    have kt0 := HBK.out.cell 0
    have kt1 := HBK.out.cell 1
    have kt2 := HBK.out.cell 2
    have kt3 := HBK.out.cell 3
    have kt4 := HBK.out.cell 4
    have kt5 := HBK.out.cell 5
    have kt6 := HBK.out.cell 6
    have kt7 := HBK.out.cell 7
    have kt8 := HBK.out.cell 8
    have kt9 := HBK.out.cell 9
    have kt10 := HBK.out.cell 10
    have kt11 := HBK.out.cell 11
    have kt12 := HBK.out.cell 12
    have kt13 := HBK.out.cell 13
    have kt14 := HBK.out.cell 14
    simp only [tabC, List.getElem?_cons_zero, List.getElem?_cons_succ] at kt0 kt1 kt2 kt3 kt4 kt5 kt6 kt7 kt8 kt9 kt10 kt11 kt12 kt13 kt14
    go_wp2_with fail
    clear hW0
    refine region_text (fun w' => Below W0.heap.size W0 w') (by kernel_rfl) (by kernel_rfl) ((Below.refl _ _).drew) (fun KK hKK => ?_)
    intro OPS
    try simp only [List.append]
    repeat (first
      | (refine' inText_val ?_ ?_ ?_ ?_
         rotate_left 2
         · rfl
         · (intro w' hS; obtain ⟨hcc, hff⟩ := bcell hS; go_simp; first | with_reducible rfl | (rw [if_neg (by omega)]; done) | (rw [if_neg (by omega)]; with_reducible rfl) | (rw [if_pos (by omega)]; done) | (rw [if_pos (by omega)]; with_reducible rfl) | skip)
         · (simp only [Act.put, List.setIfInBounds_toArray, List.set_cons_zero, List.set_cons_succ]; with_reducible rfl))
      | (refine' inText_call ?_ ?_ ?_ ?_ ?_
         rotate_left 4
         · rfl
         · (intro w' hS; obtain ⟨hcc, hff⟩ := bcell hS; go_simp; exact ⟨rfl, rfl⟩)
         · (intro w' hS
            first
              | ((with_reducible refine (HT.out w' hS).mono ?_); exact fun e w'' h => ⟨h.1, bl_then hS h.2⟩)
              | ((with_reducible refine (HU.out w' hS).mono ?_); exact fun e w'' h => ⟨h.1, bl_then hS h.2⟩))
         · (simp only [Act.put, List.setIfInBounds_toArray, List.set_cons_zero, List.set_cons_succ]; with_reducible rfl)))
    refine inText_nil (hKK.out _ (fun w5 hS => ?_))
    have HB9 := Lib.hid (bl_then HB0.out hS)
    clear hS hKK
    clear kt0 kt1 kt2 kt3 kt4 kt5 kt6 kt7 kt8 kt9 kt10 kt11 kt12 kt13 kt14
    go_wp2
    go_ret
    exact ⟨rfl, HB9.out⟩
  | [y, z], b, o, c, w => fun _ _ ht hr => by
    have hbk := BK.new w (tabC x t) 28
    have hb0 := bl_a (Below.refl w.heap.size w) (.cells (tabC x t).toArray 28)
    obtain ⟨W0, hW0⟩ : ∃ W0, w.alloc (.cells (tabC x t).toArray 28) = W0 := ⟨_, rfl⟩
    rw [hW0] at hbk hb0
    have HT := Lib.hid (fun w' (hb : Below W0.heap.size W0 w') => refTitleT x t y w' (ht.below (bl_then hb0 hb)))
    have HU := Lib.hid (fun w' (hb : Below W0.heap.size W0 w') => refTitleT x t z w' (ht.below (bl_then hb0 hb)))
    have HB0 := Lib.hid hb0
    have HBK := Lib.hid hbk
    have hlt0 : w.heap.size < W0.heap.size := hbk.lt
    have hr0 := hr.below hb0
    obtain ⟨hc, hb, hcs⟩ := hr0
    have hc0 := hcs 0 (by simp)
    have hc1 := hcs 1 (by simp)
    simp only [List.getElem_cons_zero, List.getElem_cons_succ, Nat.add_zero] at hc0 hc1
    have z1 := title_le hT y
    have z2 := title_le hT z
    rw [show rowL t [y, z] = titleT t y ++ anL ++ titleT t z from rfl]
    generalize titleT t y = ti at *
    generalize titleT t z = tj at *
    clear ht hb0 hbk hr hcs
    unfold tabV mkS at *
    unfold tabC at HT HU hW0 ⊢
    simp only [List.length_cons, List.length_nil] at hc ⊢
    go_enter Tryd.func43, Tryd.ntmps43
    have kt0 := HBK.out.cell 0
    have kt1 := HBK.out.cell 1
    have kt2 := HBK.out.cell 2
    have kt3 := HBK.out.cell 3
    have kt4 := HBK.out.cell 4
    have kt5 := HBK.out.cell 5
    have kt6 := HBK.out.cell 6
    have kt7 := HBK.out.cell 7
    have kt8 := HBK.out.cell 8
    have kt9 := HBK.out.cell 9
    have kt10 := HBK.out.cell 10
    have kt11 := HBK.out.cell 11
    have kt12 := HBK.out.cell 12
    have kt13 := HBK.out.cell 13
    have kt14 := HBK.out.cell 14
    simp only [tabC, List.getElem?_cons_zero, List.getElem?_cons_succ] at kt0 kt1 kt2 kt3 kt4 kt5 kt6 kt7 kt8 kt9 kt10 kt11 kt12 kt13 kt14
    go_wp2_with fail
    clear hW0
    refine region_text (fun w' => Below W0.heap.size W0 w') (by kernel_rfl) (by kernel_rfl) ((Below.refl _ _).drew) (fun KK hKK => ?_)
    intro OPS
    try simp only [List.append]
    repeat (first
      | (refine' inText_val ?_ ?_ ?_ ?_
         rotate_left 2
         · rfl
         · (intro w' hS; obtain ⟨hcc, hff⟩ := bcell hS; go_simp; first | with_reducible rfl | (rw [if_neg (by omega)]; done) | (rw [if_neg (by omega)]; with_reducible rfl) | (rw [if_pos (by omega)]; done) | (rw [if_pos (by omega)]; with_reducible rfl) | skip)
         · (simp only [Act.put, List.setIfInBounds_toArray, List.set_cons_zero, List.set_cons_succ]; with_reducible rfl))
      | (refine' inText_call ?_ ?_ ?_ ?_ ?_
         rotate_left 4
         · rfl
         · (intro w' hS; obtain ⟨hcc, hff⟩ := bcell hS; go_simp; exact ⟨rfl, rfl⟩)
         · (intro w' hS
            first
              | ((with_reducible refine (HT.out w' hS).mono ?_); exact fun e w'' h => ⟨h.1, bl_then hS h.2⟩)
              | ((with_reducible refine (HU.out w' hS).mono ?_); exact fun e w'' h => ⟨h.1, bl_then hS h.2⟩))
         · (simp only [Act.put, List.setIfInBounds_toArray, List.set_cons_zero, List.set_cons_succ]; with_reducible rfl)))
    refine inText_nil (hKK.out _ (fun w5 hS => ?_))
    have HB9 := Lib.hid (bl_then HB0.out hS)
    clear hS hKK
    clear kt0 kt1 kt2 kt3 kt4 kt5 kt6 kt7 kt8 kt9 kt10 kt11 kt12 kt13 kt14
    go_wp2
    go_ret
    exact ⟨congrArg (fun b => Ending.returned (.string b)) (by rw [← ba_app, ← ba_app]; rfl), HB9.out⟩
  | y :: z :: u :: T, b, o, c, w => fun _ h1000 ht hr => by
    have hbk := BK.new w (tabC x t) 28
    have hb0 := bl_a (Below.refl w.heap.size w) (.cells (tabC x t).toArray 28)
    obtain ⟨W0, hW0⟩ : ∃ W0, w.alloc (.cells (tabC x t).toArray 28) = W0 := ⟨_, rfl⟩
    rw [hW0] at hbk hb0
    have HT := Lib.hid (fun w' (hb : Below W0.heap.size W0 w') => refTitleT x t y w' (ht.below (bl_then hb0 hb)))
    have HU := Lib.hid (fun w' (hb : Below W0.heap.size W0 w') => refRow x t hT (z :: u :: T) b (o + 1) (c - 1) w' (by simp) (by simp at h1000 ⊢; omega) (ht.below (bl_then hb0 hb)) ((hr.below (bl_then hb0 hb)).tail))
    have HB0 := Lib.hid hb0
    have HBK := Lib.hid hbk
    have hlt0 : w.heap.size < W0.heap.size := hbk.lt
    have hr0 := hr.below hb0
    obtain ⟨hc, hb, hcs⟩ := hr0
    have hc0 := hcs 0 (by simp)
    simp only [List.getElem_cons_zero, Nat.add_zero] at hc0
    have z1 := title_le hT y
    have z2 := rowL_le hT (L := z :: u :: T)
    rw [show rowL t (y :: z :: u :: T) = titleT t y ++ coL ++ rowL t (z :: u :: T) from rfl]
    generalize titleT t y = ti at *
    generalize rowL t (z :: u :: T) = tj at *
    simp only [List.length_cons] at hc h1000 z2 HU ⊢
    generalize T.length = k at *
    have hc1 : ¬ (c = 1) := by omega
    rw [show k + 1 + 1 = k + 2 from rfl] at HU
    clear ht hb0 hbk hr hcs
    unfold tabV mkS at *
    unfold tabC at HT HU hW0 ⊢
    go_enter Tryd.func43, Tryd.ntmps43
    have kt0 := HBK.out.cell 0
    have kt1 := HBK.out.cell 1
    have kt2 := HBK.out.cell 2
    have kt3 := HBK.out.cell 3
    have kt4 := HBK.out.cell 4
    have kt5 := HBK.out.cell 5
    have kt6 := HBK.out.cell 6
    have kt7 := HBK.out.cell 7
    have kt8 := HBK.out.cell 8
    have kt9 := HBK.out.cell 9
    have kt10 := HBK.out.cell 10
    have kt11 := HBK.out.cell 11
    have kt12 := HBK.out.cell 12
    have kt13 := HBK.out.cell 13
    have kt14 := HBK.out.cell 14
    simp only [tabC, List.getElem?_cons_zero, List.getElem?_cons_succ] at kt0 kt1 kt2 kt3 kt4 kt5 kt6 kt7 kt8 kt9 kt10 kt11 kt12 kt13 kt14
    go_wp2_with fail
    clear hW0
    refine region_text (fun w' => Below W0.heap.size W0 w') (by kernel_rfl) (by kernel_rfl) ((Below.refl _ _).drew) (fun KK hKK => ?_)
    intro OPS
    try simp only [List.append]
    repeat (first
      | (refine' inText_val ?_ ?_ ?_ ?_
         rotate_left 2
         · rfl
         · (intro w' hS; obtain ⟨hcc, hff⟩ := bcell hS; go_simp; first | with_reducible rfl | (rw [if_neg (by omega)]; done) | (rw [if_neg (by omega)]; with_reducible rfl) | (rw [if_pos (by omega)]; done) | (rw [if_pos (by omega)]; with_reducible rfl) | skip)
         · (simp only [Act.put, List.setIfInBounds_toArray, List.set_cons_zero, List.set_cons_succ]; with_reducible rfl))
      | (refine' inText_call ?_ ?_ ?_ ?_ ?_
         rotate_left 4
         · rfl
         · (intro w' hS; obtain ⟨hcc, hff⟩ := bcell hS; go_simp; exact ⟨rfl, rfl⟩)
         · (intro w' hS
            first
              | ((with_reducible refine (HT.out w' hS).mono ?_); exact fun e w'' h => ⟨h.1, bl_then hS h.2⟩)
              | ((with_reducible refine (HU.out w' hS).mono ?_); exact fun e w'' h => ⟨h.1, bl_then hS h.2⟩))
         · (simp only [Act.put, List.setIfInBounds_toArray, List.set_cons_zero, List.set_cons_succ]; with_reducible rfl)))
    refine inText_nil (hKK.out _ (fun w5 hS => ?_))
    have HB9 := Lib.hid (bl_then HB0.out hS)
    clear hS hKK
    clear kt0 kt1 kt2 kt3 kt4 kt5 kt6 kt7 kt8 kt9 kt10 kt11 kt12 kt13 kt14
    go_wp2
    go_ret
    exact ⟨congrArg (fun b => Ending.returned (.string b)) (by rw [← ba_app, ← ba_app]; rfl), HB9.out⟩
end Go.Proofs.YtjnpinfnpnohmaaDoor
namespace Go.Proofs.YtjnpinfnpnohmaaDoor
open Go.RowKit Go.PlainAid Go.ChangeShapes Go.WideShapes Go.Deep
set_option linter.unusedVariables false
set_option linter.unusedSimpArgs false

theorem array13 {α : Type} {a : Array α} (h : a.size = 13) : ∃ c0 c1 c2 c3 c4 c5 c6 c7 c8 c9 c10 c11 c12, a = #[c0, c1, c2, c3, c4, c5, c6, c7, c8, c9, c10, c11, c12] := by
  obtain ⟨l⟩ := a
  match l, h with
  | [c0, c1, c2, c3, c4, c5, c6, c7, c8, c9, c10, c11, c12], _ => exact ⟨c0, c1, c2, c3, c4, c5, c6, c7, c8, c9, c10, c11, c12, rfl⟩
theorem cells_wd : Tryd.prog.cellsOf 34 = 13 := by kernel_rfl
set_option maxRecDepth 100000 in
theorem world_open {H : Type} {enc : TypeId × Value → H} {w : World} {r : Reach} {b0 base : Nat} {spare : Nat → Bool} {held : Bool} {v : Value} {d : DataW H} {p : List MemPlace} (hv : Value.okWide Tryd.prog w r b0 34 v)
    (h : DataW.Trod enc Tryd.prog w base spare held 34 v d p) (hn : Near Tryd.prog 34 d) : ∃ (q : Wv) (e : WdC), v = worldV q ∧ WRd w q e := by
  obtain ⟨cs, rfl, hsz⟩ := okWide_struct Tryd.underlying34 hv
  obtain ⟨c0, c1, c2, c3, c4, c5, c6, c7, c8, c9, c10, c11, c12, rfl⟩ := array13 (hsz.trans cells_wd)
  obtain ⟨fuel, hf⟩ := h
  obtain ⟨h1, h2⟩ := near_fields Tryd.underlying34 (by kernel_rfl) (by kernel_rfl) hf hn
  obtain ⟨x0, y0⟩ := nearN_one (c := Cd.is) 0 _ h2 rfl (by simp [Value.cells]) opens_ints
  obtain ⟨x1, y1⟩ := nearN_one (c := Cd.is) 1 _ h2 rfl (by simp [Value.cells]) opens_ints
  obtain ⟨x2, y2⟩ := nearN_one (c := Cd.is) 2 _ h2 rfl (by simp [Value.cells]) opens_ints
  obtain ⟨x3, y3⟩ := nearN_one (c := Cd.is) 3 _ h2 rfl (by simp [Value.cells]) opens_ints
  obtain ⟨x4, y4⟩ := nearN_one (c := Cd.is) 4 _ h2 rfl (by simp [Value.cells]) opens_ints
  obtain ⟨x5, y5⟩ := nearN_one (c := Cd.is) 5 _ h2 rfl (by simp [Value.cells]) opens_ints
  obtain ⟨x6, y6⟩ := nearN_one (c := Cd.is) 6 _ h2 rfl (by simp [Value.cells]) opens_ints
  obtain ⟨x7, y7⟩ := nearN_one (c := Cd.int .u64) 7 _ h2 rfl (by simp [Value.cells]) (Opens.n (opens_int Tryd.underlying32))
  obtain ⟨x8, y8⟩ := nearN_one (c := Cd.i) 8 _ h2 rfl (by simp [Value.cells]) (Opens.n (opens_int Tryd.underlying3))
  obtain ⟨x9, y9⟩ := nearN_one (c := Cd.i) 9 _ h2 rfl (by simp [Value.cells]) (Opens.n (opens_int Tryd.underlying3))
  obtain ⟨x10, y10⟩ := nearN_one (c := Cd.i) 10 _ h2 rfl (by simp [Value.cells]) (Opens.n (opens_int Tryd.underlying3))
  obtain ⟨x11, y11⟩ := nearN_one (c := Cd.i) 11 _ h2 rfl (by simp [Value.cells]) (Opens.n (opens_int Tryd.underlying3))
  obtain ⟨x12, y12⟩ := nearN_one (c := Cd.i) 12 _ h2 rfl (by simp [Value.cells]) (Opens.n (opens_int Tryd.underlying3))
  obtain ⟨a0, k0, e0, _⟩ := Reads.len (v := c0) (Reads.q y0)
  obtain ⟨a1, k1, e1, _⟩ := Reads.len (v := c1) (Reads.q y1)
  obtain ⟨a2, k2, e2, _⟩ := Reads.len (v := c2) (Reads.q y2)
  obtain ⟨a3, k3, e3, _⟩ := Reads.len (v := c3) (Reads.q y3)
  obtain ⟨a4, k4, e4, _⟩ := Reads.len (v := c4) (Reads.q y4)
  obtain ⟨a5, k5, e5, _⟩ := Reads.len (v := c5) (Reads.q y5)
  obtain ⟨a6, k6, e6, _⟩ := Reads.len (v := c6) (Reads.q y6)
  have e7 : c7 = .int .u64 x7 := (Reads.int (v := c7) y7).1
  have e8 : c8 = .int .i64 x8 := (Reads.int (v := c8) y8).1
  have e9 : c9 = .int .i64 x9 := (Reads.int (v := c9) y9).1
  have e10 : c10 = .int .i64 x10 := (Reads.int (v := c10) y10).1
  have e11 : c11 = .int .i64 x11 := (Reads.int (v := c11) y11).1
  have e12 : c12 = .int .i64 x12 := (Reads.int (v := c12) y12).1
  subst e0 e1 e2 e3 e4 e5 e6 e7 e8 e9 e10 e11 e12
  exact ⟨⟨a0, a1, a2, a3, a4, a5, a6, x0.length, x1.length, x2.length, x3.length, x4.length, x5.length, x6.length, k0, k1, k2, k3, k4, k5, k6, x7, x8, x9, x10, x11, x12⟩, ⟨x0, x1, x2, x3, x4, x5, x6⟩, rfl, ⟨y0, y1, y2, y3, y4, y5, y6, y8.2, y9.2, y10.2, y11.2, y12.2⟩⟩
theorem RightOk.ok {t : TbC} {q : Wv} {d : WdC} {w : World} (h : RightOk t q d) (hf : FitsOk t) (hw : WRd w q d) : WOk w q d t.th.length where
  is := hw.is
  len := ⟨h.h1, by rw [h.nest.h2, h.h1], by rw [h.nest.h3, h.h1], by have := hf.th.len.2; unfold maxLen; omega⟩
  l4 := h.h4
  pos := by have := hf.th.len.1; omega
  few := by have := hf.th.len.2; omega
  fl := fun m hm => by have := h.fl m hm; have := bitsN_le t.fl; omega
  nest := by have := h.nest.nest.nest; rwa [h.h1] at this
theorem FitsOk.tw {t : TbC} (h : FitsOk t) : TW t t.th.length := ⟨rfl, by have := h.th.len.1; omega, h.he.tl⟩
theorem shown_eq {fl ch nx : List Int} {n : Nat} {x : Int} : (kidsW ch nx n x).filter (shownB fl n) = (kidsW ch nx n x).filter (showsL fl) := by
  refine List.filter_congr fun c hc => ?_
  unfold shownB showsL hasB
  rw [kids_is hc]
  cases bitB (atW fl c) 3 <;> cases (c == 1) <;> rfl
theorem rowT_rowL {t : TbC} {L : List Int} (h : 0 < L.length) : rowT (L.map (titleT t)) = rowL t L := by
  cases L with
  | nil => cases h
  | cons y L => unfold rowL rowT; rw [List.map_cons, row_tail]
theorem OwnInts.row {B : Nat} {w : World} {v : Value} {L : List Int} (h : OwnInts B w v L) (hn : 0 < L.length) : ∃ b c, v = .slice (some ⟨b, 0, none⟩) L.length c ∧ RowL w b 0 c L := by
  rcases h.1.2 with ⟨_, h0⟩ | ⟨g, cap, cur, rfl, hbg, hg, hnc, hcm, hcs, htake⟩
  · omega
  · refine ⟨g, cap, rfl, ?_, lt_of_block hg, fun i hi => ?_⟩
    · omega
    · rw [Nat.zero_add, h.1.cellAt i (by omega)]; simp [hi]
set_option maxRecDepth 100000 in
set_option maxHeartbeats 4000000 in
theorem refList (x : TAd) (t : TbC) (q : Wv) (d : WdC) (n : Nat) (y : Int) (w : World) (ht : TabIs w x t) (hW : WOk w q d n) (hT : ∀ s ∈ t.tx, s.length ≤ 1024) :
    Calls Tryd.prog 16 #[tabV x t, worldV q, .int .i64 y] w fun e w' => e = .returned (mkS (rowT (titlesL t d.fl (kidsW d.ch d.nx n y)))) ∧ Below w.heap.size w w' := by
  have hnew := Two.new x t q w
  obtain ⟨W0, hW0⟩ : ∃ W0, (w.alloc (.cells (tabC x t).toArray 28)).alloc (.cells (worldC q).toArray 34) = W0 := ⟨_, rfl⟩
  rw [hW0] at hnew
  have HLI := Lib.hid (fun w' (hb : Below w.heap.size w w') => ref24Listed q d y n w' (hW.below hb))
  have HRO := Lib.hid (fun L b o c w' (h0 : 0 < L.length) (h1 : L.length ≤ 1000) (hb : Below w.heap.size w w') => refRow x t hT L b o c w' h0 h1 (ht.below hb))
  have hle : ((kidsW d.ch d.nx n y).filter (shownB d.fl n)).length ≤ 1000 := Nat.le_trans (List.length_filter_le _ _) (Nat.le_trans (kids_len d.ch d.nx n y) hW.few)
  unfold titlesL
  rw [← shown_eq]
  generalize (kidsW d.ch d.nx n y).filter (shownB d.fl n) = L at *
  have HE := Lib.hid (fun (h : 0 < L.length) => rowT_rowL (t := t) h)
  have HN : Hid (L = [] → rowT (L.map (titleT t)) = nothingL) := Lib.hid (fun h => by rw [h]; rfl)
  generalize rowT (L.map (titleT t)) = R at *
  clear ht hW hT
  have HTW := Lib.hid (hnew)
  have HTWt := Lib.hid HTW.out.bt
  have HTWw := Lib.hid HTW.out.bw
  have kt0 := HTWt.out.cell 0
  have kt1 := HTWt.out.cell 1
  have kt2 := HTWt.out.cell 2
  have kt3 := HTWt.out.cell 3
  have kt4 := HTWt.out.cell 4
  have kt5 := HTWt.out.cell 5
  have kt6 := HTWt.out.cell 6
  have kt7 := HTWt.out.cell 7
  have kt8 := HTWt.out.cell 8
  have kt9 := HTWt.out.cell 9
  have kt10 := HTWt.out.cell 10
  have kt11 := HTWt.out.cell 11
  have kt12 := HTWt.out.cell 12
  have kt13 := HTWt.out.cell 13
  have kt14 := HTWt.out.cell 14
  simp only [tabC, List.getElem?_cons_zero, List.getElem?_cons_succ] at kt0 kt1 kt2 kt3 kt4 kt5 kt6 kt7 kt8 kt9 kt10 kt11 kt12 kt13 kt14
  have b0 := HTWw.out.cell 0
  have b1 := HTWw.out.cell 1
  have b2 := HTWw.out.cell 2
  have b3 := HTWw.out.cell 3
  have b4 := HTWw.out.cell 4
  have b5 := HTWw.out.cell 5
  have b6 := HTWw.out.cell 6
  have b7 := HTWw.out.cell 7
  have b8 := HTWw.out.cell 8
  have b9 := HTWw.out.cell 9
  have bA := HTWw.out.cell 10
  have bB := HTWw.out.cell 11
  have bC := HTWw.out.cell 12
  simp only [worldC, List.getElem?_cons_zero, List.getElem?_cons_succ] at b0 b1 b2 b3 b4 b5 b6 b7 b8 b9 bA bB bC
  clear hnew
  unfold tabV worldV mkS at *
  go_enter Tryd.func16, Tryd.ntmps16
  unfold worldC at HLI hW0 ⊢
  unfold tabC at HRO hW0 ⊢
  go_wp2_with fail
  clear hW0
  refine (HLI.out _ HTW.out.bl).mono ?_
  rintro e w1 ⟨v, rfl, g1, g2⟩
  have hnew := HTW.out.below g2
  clear g2
  clear kt0 kt1 kt2 kt3 kt4 kt5 kt6 kt7 kt8 kt9 kt10 kt11 kt12 kt13 kt14
  clear b0 b1 b2 b3 b4 b5 b6 b7 b8 b9 bA bB bC
  clear HTWt HTWw
  clear HTW
  have HTW := Lib.hid (hnew)
  have HTWt := Lib.hid HTW.out.bt
  have HTWw := Lib.hid HTW.out.bw
  have kt0 := HTWt.out.cell 0
  have kt1 := HTWt.out.cell 1
  have kt2 := HTWt.out.cell 2
  have kt3 := HTWt.out.cell 3
  have kt4 := HTWt.out.cell 4
  have kt5 := HTWt.out.cell 5
  have kt6 := HTWt.out.cell 6
  have kt7 := HTWt.out.cell 7
  have kt8 := HTWt.out.cell 8
  have kt9 := HTWt.out.cell 9
  have kt10 := HTWt.out.cell 10
  have kt11 := HTWt.out.cell 11
  have kt12 := HTWt.out.cell 12
  have kt13 := HTWt.out.cell 13
  have kt14 := HTWt.out.cell 14
  simp only [tabC, List.getElem?_cons_zero, List.getElem?_cons_succ] at kt0 kt1 kt2 kt3 kt4 kt5 kt6 kt7 kt8 kt9 kt10 kt11 kt12 kt13 kt14
  have b0 := HTWw.out.cell 0
  have b1 := HTWw.out.cell 1
  have b2 := HTWw.out.cell 2
  have b3 := HTWw.out.cell 3
  have b4 := HTWw.out.cell 4
  have b5 := HTWw.out.cell 5
  have b6 := HTWw.out.cell 6
  have b7 := HTWw.out.cell 7
  have b8 := HTWw.out.cell 8
  have b9 := HTWw.out.cell 9
  have bA := HTWw.out.cell 10
  have bB := HTWw.out.cell 11
  have bC := HTWw.out.cell 12
  simp only [worldC, List.getElem?_cons_zero, List.getElem?_cons_succ] at b0 b1 b2 b3 b4 b5 b6 b7 b8 b9 bA bB bC
  clear hnew
  by_cases h0 : 0 < L.length
  · obtain ⟨b, c, rfl, hr⟩ := g1.row h0
    have HR := Lib.hid (HRO.out L b 0 c w1 h0 hle HTW.out.bl hr)
    rw [← HE.out h0] at HR
    have h00 : ¬ (L.length = 0) := by omega
    have hq : ((L.length : Int) == 0) = false := by simp; intro h; subst h; cases h0
    clear hr g1 HRO HLI HE HN
    generalize L.length = k at *
    go_wp2_with fail
    refine HR.out.mono ?_
    rintro e w2 ⟨rfl, hb2⟩
    have HB2 := Lib.hid (bl_then HTW.out.bl hb2)
    clear hb2
    clear kt0 kt1 kt2 kt3 kt4 kt5 kt6 kt7 kt8 kt9 kt10 kt11 kt12 kt13 kt14
    clear b0 b1 b2 b3 b4 b5 b6 b7 b8 b9 bA bB bC
    clear HTWt HTWw
    go_wp2
    go_ret
    exact ⟨rfl, HB2.out⟩
  · have hL : L = [] := List.length_eq_zero_iff.1 (by omega)
    have hv := g1.2 hL
    have HR := Lib.hid (HN.out hL)
    subst hv
    clear g1 HRO HLI HE HN h0
    go_wp2_with fail
    go_ret
    exact ⟨by rw [HR.out]; rfl, HTW.out.bl⟩
end Go.Proofs.YtjnpinfnpnohmaaDoor
