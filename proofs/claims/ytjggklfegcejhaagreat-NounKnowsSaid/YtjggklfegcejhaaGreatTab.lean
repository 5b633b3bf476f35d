/- A story's tables as data: codes of things, verbs, rules; what an argument of type Tables reads as. -/
import Derived.Test.YtjggklfegcejhaaGreatCode
import Derived.Test.YtjggklfegcejhaaGreatReach
namespace Go.Proofs.YtjggklfegcejhaaGreat
open Go.RowKit Go.PlainAid Go.ChangeShapes Go.WideShapes Go.Deep
set_option linter.unusedVariables false
set_option linter.unusedSimpArgs false

abbrev nilV : Value := .slice none 0 0
abbrev TxC := List UInt8
structure WyC where
  (dir to wh el : Int)
structure ThC where
  (ti tx pa fl : Int)
  rm : Bool
  pr : List Int
  (wd ad : List TxC)
  wy : List WyC
structure SlC where
  kd : Int
  wd : List TxC
structure AcC where
  me : Bool
  ln : List (List SlC)
structure DdC where
  (ve ph no se wh bo : Int)
structure TbC where
  (ti au re mx : Int)
  tx : List TxC
  fl : Int
  (pr gl : List Int)
  th : List ThC
  ac : List AcC
  dd : List DdC
  (fu da pa lo : List Int)

abbrev Cd.i : Cd Int := Cd.int .i64
abbrev Cd.is : Cd (List Int) := Cd.i.sq
abbrev Cd.ss : Cd (List TxC) := Cd.str.sq
/-- An int that is one. -/
def I64 (n : Int) : Prop := (Lit.int .i64 n).wf = true
def Cd.wy : Cd WyC := ⟨4, fun _ cs x => cs = [.int .i64 x.dir, .int .i64 x.to, .int .i64 x.wh, .int .i64 x.el] ∧ I64 x.dir ∧ I64 x.to ∧ I64 x.wh ∧ I64 x.el, fun h => by rw [h.1]; rfl, fun h _ => h⟩
structure ThIs (w : World) (p wd ad wy : Value) (x : ThC) : Prop where
  pr : Reads Cd.is w p x.pr
  wd : Reads Cd.ss w wd x.wd
  ad : Reads Cd.ss w ad x.ad
  wy : Reads Cd.wy.sq w wy x.wy
  (i0 : I64 x.ti) (i1 : I64 x.tx) (i2 : I64 x.pa) (i3 : I64 x.fl)
theorem ThIs.below {w w' : World} {p wd ad wy : Value} {x : ThC} (h : ThIs w p wd ad wy x) (hb : Below w.heap.size w w') : ThIs w' p wd ad wy x :=
  ⟨h.pr.below hb, h.wd.below hb, h.ad.below hb, h.wy.below hb, h.i0, h.i1, h.i2, h.i3⟩
def thRow (x : ThC) (p wd ad wy : Value) : List Value := [.int .i64 x.ti, .int .i64 x.tx, .int .i64 x.pa, .int .i64 x.fl, .bool x.rm, p, wd, ad, wy]
def Cd.th : Cd ThC := ⟨9, fun w cs x => ∃ p wd ad wy, cs = thRow x p wd ad wy ∧ ThIs w p wd ad wy x, fun h => by obtain ⟨p, wd, ad, wy, rfl, _⟩ := h; rfl, fun h hb => by obtain ⟨p, wd, ad, wy, e, h⟩ := h; exact ⟨p, wd, ad, wy, e, h.below hb⟩⟩
def Cd.sl : Cd SlC := ⟨2, fun w cs x => ∃ v, cs = [.int .i64 x.kd, v] ∧ Reads Cd.ss w v x.wd ∧ I64 x.kd, fun h => by obtain ⟨v, rfl, _⟩ := h; rfl, fun h hb => by obtain ⟨v, e, h, i⟩ := h; exact ⟨v, e, h.below hb, i⟩⟩
def Cd.ac : Cd AcC := ⟨2, fun w cs x => ∃ v, cs = [.bool x.me, v] ∧ Reads Cd.sl.sq.sq w v x.ln, fun h => by obtain ⟨v, rfl, _⟩ := h; rfl, fun h hb => by obtain ⟨v, e, h⟩ := h; exact ⟨v, e, h.below hb⟩⟩
def Cd.dd : Cd DdC := ⟨6, fun _ cs x => cs = [.int .i64 x.ve, .int .i64 x.ph, .int .i64 x.no, .int .i64 x.se, .int .i64 x.wh, .int .i64 x.bo] ∧ I64 x.ve ∧ I64 x.ph ∧ I64 x.no ∧ I64 x.se ∧ I64 x.wh ∧ I64 x.bo, fun h => by rw [h.1]; rfl, fun h _ => h⟩

/-- Where a table's lists lie. -/
structure TAd where
  (a4 a6 a7 a8 a9 a10 a11 a12 a13 a14 : Option Addr)
  (c4 c6 c7 c8 c9 c10 c11 c12 c13 c14 : Nat)
def tabC (x : TAd) (t : TbC) : List Value :=
  [.int .i64 t.ti, .int .i64 t.au, .int .i64 t.re, .int .i64 t.mx, .slice x.a4 t.tx.length x.c4, .int .i64 t.fl, .slice x.a6 t.pr.length x.c6, .slice x.a7 t.gl.length x.c7, .slice x.a8 t.th.length x.c8, .slice x.a9 t.ac.length x.c9, .slice x.a10 t.dd.length x.c10, .slice x.a11 t.fu.length x.c11, .slice x.a12 t.da.length x.c12, .slice x.a13 t.pa.length x.c13, .slice x.a14 t.lo.length x.c14]
def tabV (x : TAd) (t : TbC) : Value := .agg (tabC x t).toArray
theorem tab15 {w : World} {k : Nat} {x : TAd} {t : TbC} {T : TypeId} (h : BK w k (tabC x t) T) : w.cell? ⟨k, 0, none⟩ = some (.int .i64 t.ti) ∧ w.cell? ⟨k, 1, none⟩ = some (.int .i64 t.au) ∧ w.cell? ⟨k, 2, none⟩ = some (.int .i64 t.re) ∧ w.cell? ⟨k, 3, none⟩ = some (.int .i64 t.mx) ∧ w.cell? ⟨k, 4, none⟩ = some (.slice x.a4 t.tx.length x.c4) ∧ w.cell? ⟨k, 5, none⟩ = some (.int .i64 t.fl) ∧ w.cell? ⟨k, 6, none⟩ = some (.slice x.a6 t.pr.length x.c6) ∧ w.cell? ⟨k, 7, none⟩ = some (.slice x.a7 t.gl.length x.c7) ∧ w.cell? ⟨k, 8, none⟩ = some (.slice x.a8 t.th.length x.c8) ∧ w.cell? ⟨k, 9, none⟩ = some (.slice x.a9 t.ac.length x.c9) ∧ w.cell? ⟨k, 10, none⟩ = some (.slice x.a10 t.dd.length x.c10) ∧ w.cell? ⟨k, 11, none⟩ = some (.slice x.a11 t.fu.length x.c11) ∧ w.cell? ⟨k, 12, none⟩ = some (.slice x.a12 t.da.length x.c12) ∧ w.cell? ⟨k, 13, none⟩ = some (.slice x.a13 t.pa.length x.c13) ∧ w.cell? ⟨k, 14, none⟩ = some (.slice x.a14 t.lo.length x.c14) :=
  ⟨h.cell 0, h.cell 1, h.cell 2, h.cell 3, h.cell 4, h.cell 5, h.cell 6, h.cell 7, h.cell 8, h.cell 9, h.cell 10, h.cell 11, h.cell 12, h.cell 13, h.cell 14⟩
structure TabIs (w : World) (x : TAd) (t : TbC) : Prop where
  tx : Reads Cd.ss w (.slice x.a4 t.tx.length x.c4) t.tx
  pr : Reads Cd.is w (.slice x.a6 t.pr.length x.c6) t.pr
  gl : Reads Cd.is w (.slice x.a7 t.gl.length x.c7) t.gl
  th : Reads Cd.th.sq w (.slice x.a8 t.th.length x.c8) t.th
  ac : Reads Cd.ac.sq w (.slice x.a9 t.ac.length x.c9) t.ac
  dd : Reads Cd.dd.sq w (.slice x.a10 t.dd.length x.c10) t.dd
  fu : Reads Cd.is w (.slice x.a11 t.fu.length x.c11) t.fu
  da : Reads Cd.is w (.slice x.a12 t.da.length x.c12) t.da
  pa : Reads Cd.is w (.slice x.a13 t.pa.length x.c13) t.pa
  lo : Reads Cd.is w (.slice x.a14 t.lo.length x.c14) t.lo
  (i0 : I64 t.ti) (i1 : I64 t.au) (i2 : I64 t.re) (i3 : I64 t.mx) (i5 : I64 t.fl)
theorem TabIs.below {w w' : World} {x : TAd} {t : TbC} (h : TabIs w x t) (hb : Below w.heap.size w w') : TabIs w' x t :=
  ⟨h.tx.below hb, h.pr.below hb, h.gl.below hb, h.th.below hb, h.ac.below hb, h.dd.below hb, h.fu.below hb, h.da.below hb, h.pa.below hb, h.lo.below hb, h.i0, h.i1, h.i2, h.i3, h.i5⟩
/-- Lists of bounded length. -/
structure TbC.few (t : TbC) : Prop where
  tx : t.tx.length ≤ maxLen
  pr : t.pr.length ≤ maxLen
  gl : t.gl.length ≤ maxLen
  th : t.th.length ≤ maxLen
  ac : t.ac.length ≤ maxLen
  dd : t.dd.length ≤ maxLen
  fu : t.fu.length ≤ maxLen
  da : t.da.length ≤ maxLen
  pa : t.pa.length ≤ maxLen
  lo : t.lo.length ≤ maxLen
theorem reads_few {α : Type} {c : Cd α} {w : World} {v : Value} {xs : List α} (h : Reads c.sq w v xs) : xs.length ≤ maxLen := by
  obtain ⟨a, cap, _, _, h⟩ := h.q.len; exact h
theorem TabIs.few {w : World} {x : TAd} {t : TbC} (h : TabIs w x t) : t.few :=
  ⟨reads_few h.tx, reads_few h.pr, reads_few h.gl, reads_few h.th, reads_few h.ac, reads_few h.dd, reads_few h.fu, reads_few h.da, reads_few h.pa, reads_few h.lo⟩

/-! ### What came in -/
theorem opens_ints : OpensN Tryz.prog 23 Cd.is := opensN_sq Tryz.underlying23 (by kernel_rfl) (by decide) (of_decide_eq_true (by kernel_rfl)) (Opens.n (opens_int Tryz.underlying3))
theorem opens_strs : OpensN Tryz.prog 22 Cd.ss := opensN_sq Tryz.underlying22 (by kernel_rfl) (by decide) (of_decide_eq_true (by kernel_rfl)) (Opens.n (opens_str Tryz.underlying9))
theorem opens_wy : OpensN Tryz.prog 127 Cd.wy := fun enc w base spare held fuel cs d h hn => by
  obtain ⟨h1, h2⟩ := near_fields Tryz.underlying127 (by kernel_rfl) (by kernel_rfl) h hn
  obtain ⟨c0, c1, c2, c3, rfl⟩ : ∃ c0 c1 c2 c3, cs = [c0, c1, c2, c3] := by
    match cs, h1 with
    | [c0, c1, c2, c3], _ => exact ⟨_, _, _, _, rfl⟩
  obtain ⟨x0, y0⟩ := nearN_one (c := Cd.i) 0 _ h2 rfl (by simp) (Opens.n (opens_int Tryz.underlying3))
  obtain ⟨x1, y1⟩ := nearN_one (c := Cd.i) 1 _ h2 rfl (by simp) (Opens.n (opens_int Tryz.underlying3))
  obtain ⟨x2, y2⟩ := nearN_one (c := Cd.i) 2 _ h2 rfl (by simp) (Opens.n (opens_int Tryz.underlying3))
  obtain ⟨x3, y3⟩ := nearN_one (c := Cd.i) 3 _ h2 rfl (by simp) (Opens.n (opens_int Tryz.underlying3))
  refine ⟨⟨x0, x1, x2, x3⟩, ?_, y0.2, y1.2, y2.2, y3.2⟩
  have e0 := y0.1
  have e1 := y1.1
  have e2 := y2.1
  have e3 := y3.1
  simp at e0 e1 e2 e3
  rw [e0, e1, e2, e3]
theorem opens_wys : OpensN Tryz.prog 62 Cd.wy.sq := opensN_sq Tryz.underlying62 (by kernel_rfl) (by decide) (of_decide_eq_true (by kernel_rfl)) opens_wy
theorem opens_th : OpensN Tryz.prog 64 Cd.th := fun enc w base spare held fuel cs d h hn => by
  obtain ⟨h1, h2⟩ := near_fields Tryz.underlying64 (by kernel_rfl) (by kernel_rfl) h hn
  obtain ⟨c0, c1, c2, c3, c4, c5, c6, c7, c8, rfl⟩ : ∃ c0 c1 c2 c3 c4 c5 c6 c7 c8, cs = [c0, c1, c2, c3, c4, c5, c6, c7, c8] := by
    match cs, h1 with
    | [c0, c1, c2, c3, c4, c5, c6, c7, c8], _ => exact ⟨_, _, _, _, _, _, _, _, _, rfl⟩
  obtain ⟨x0, y0⟩ := nearN_one (c := Cd.i) 0 _ h2 rfl (by simp) (Opens.n (opens_int Tryz.underlying3))
  obtain ⟨x1, y1⟩ := nearN_one (c := Cd.i) 1 _ h2 rfl (by simp) (Opens.n (opens_int Tryz.underlying3))
  obtain ⟨x2, y2⟩ := nearN_one (c := Cd.i) 2 _ h2 rfl (by simp) (Opens.n (opens_int Tryz.underlying3))
  obtain ⟨x3, y3⟩ := nearN_one (c := Cd.i) 3 _ h2 rfl (by simp) (Opens.n (opens_int Tryz.underlying3))
  obtain ⟨x4, y4⟩ := nearN_one (c := Cd.bool) 4 _ h2 rfl (by simp) (Opens.n (opens_bool Tryz.underlying4))
  obtain ⟨x5, y5⟩ := nearN_one (c := Cd.is) 5 _ h2 rfl (by simp) opens_ints
  obtain ⟨x6, y6⟩ := nearN_one (c := Cd.ss) 6 _ h2 rfl (by simp) opens_strs
  obtain ⟨x7, y7⟩ := nearN_one (c := Cd.ss) 7 _ h2 rfl (by simp) opens_strs
  obtain ⟨x8, y8⟩ := nearN_one (c := Cd.wy.sq) 8 _ h2 rfl (by simp) opens_wys
  refine ⟨⟨x0, x1, x2, x3, x4, x5, x6, x7, x8⟩, c5, c6, c7, c8, ?_, y5, y6, y7, y8, y0.2, y1.2, y2.2, y3.2⟩
  have e0 := y0.1
  have e1 := y1.1
  have e2 := y2.1
  have e3 := y3.1
  have e4 : [c4] = [Value.bool x4] := y4
  simp at e0 e1 e2 e3 e4
  rw [e0, e1, e2, e3, e4]; rfl
theorem opens_ths : OpensN Tryz.prog 24 Cd.th.sq := opensN_sq Tryz.underlying24 (by kernel_rfl) (by decide) (of_decide_eq_true (by kernel_rfl)) opens_th
theorem opens_sl : OpensN Tryz.prog 70 Cd.sl := fun enc w base spare held fuel cs d h hn => by
  obtain ⟨h1, h2⟩ := near_fields Tryz.underlying70 (by kernel_rfl) (by kernel_rfl) h hn
  obtain ⟨c0, c1, rfl⟩ : ∃ c0 c1, cs = [c0, c1] := by
    match cs, h1 with
    | [c0, c1], _ => exact ⟨_, _, rfl⟩
  obtain ⟨x0, y0⟩ := nearN_one (c := Cd.i) 0 _ h2 rfl (by simp) (Opens.n (opens_int Tryz.underlying3))
  obtain ⟨x1, y1⟩ := nearN_one (c := Cd.ss) 1 _ h2 rfl (by simp) opens_strs
  refine ⟨⟨x0, x1⟩, c1, ?_, y1, y0.2⟩
  have e0 := y0.1
  simp at e0
  rw [e0]
theorem opens_sls : OpensN Tryz.prog 68 Cd.sl.sq := opensN_sq Tryz.underlying68 (by kernel_rfl) (by decide) (of_decide_eq_true (by kernel_rfl)) opens_sl
theorem opens_slss : OpensN Tryz.prog 65 Cd.sl.sq.sq := opensN_sq Tryz.underlying65 (by kernel_rfl) (by decide) (of_decide_eq_true (by kernel_rfl)) opens_sls
theorem opens_ac : OpensN Tryz.prog 67 Cd.ac := fun enc w base spare held fuel cs d h hn => by
  obtain ⟨h1, h2⟩ := near_fields Tryz.underlying67 (by kernel_rfl) (by kernel_rfl) h hn
  obtain ⟨c0, c1, rfl⟩ : ∃ c0 c1, cs = [c0, c1] := by
    match cs, h1 with
    | [c0, c1], _ => exact ⟨_, _, rfl⟩
  obtain ⟨x0, y0⟩ := nearN_one (c := Cd.bool) 0 _ h2 rfl (by simp) (Opens.n (opens_bool Tryz.underlying4))
  obtain ⟨x1, y1⟩ := nearN_one (c := Cd.sl.sq.sq) 1 _ h2 rfl (by simp) opens_slss
  refine ⟨⟨x0, x1⟩, c1, ?_, y1⟩
  have e0 : [c0] = [Value.bool x0] := y0
  simp at e0
  rw [e0]
theorem opens_acs : OpensN Tryz.prog 25 Cd.ac.sq := opensN_sq Tryz.underlying25 (by kernel_rfl) (by decide) (of_decide_eq_true (by kernel_rfl)) opens_ac
theorem opens_dd : OpensN Tryz.prog 102 Cd.dd := fun enc w base spare held fuel cs d h hn => by
  obtain ⟨h1, h2⟩ := near_fields Tryz.underlying102 (by kernel_rfl) (by kernel_rfl) h hn
  obtain ⟨c0, c1, c2, c3, c4, c5, rfl⟩ : ∃ c0 c1 c2 c3 c4 c5, cs = [c0, c1, c2, c3, c4, c5] := by
    match cs, h1 with
    | [c0, c1, c2, c3, c4, c5], _ => exact ⟨_, _, _, _, _, _, rfl⟩
  obtain ⟨x0, y0⟩ := nearN_one (c := Cd.i) 0 _ h2 rfl (by simp) (Opens.n (opens_int Tryz.underlying3))
  obtain ⟨x1, y1⟩ := nearN_one (c := Cd.i) 1 _ h2 rfl (by simp) (Opens.n (opens_int Tryz.underlying3))
  obtain ⟨x2, y2⟩ := nearN_one (c := Cd.i) 2 _ h2 rfl (by simp) (Opens.n (opens_int Tryz.underlying3))
  obtain ⟨x3, y3⟩ := nearN_one (c := Cd.i) 3 _ h2 rfl (by simp) (Opens.n (opens_int Tryz.underlying3))
  obtain ⟨x4, y4⟩ := nearN_one (c := Cd.i) 4 _ h2 rfl (by simp) (Opens.n (opens_int Tryz.underlying3))
  obtain ⟨x5, y5⟩ := nearN_one (c := Cd.i) 5 _ h2 rfl (by simp) (Opens.n (opens_int Tryz.underlying3))
  refine ⟨⟨x0, x1, x2, x3, x4, x5⟩, ?_, y0.2, y1.2, y2.2, y3.2, y4.2, y5.2⟩
  have e0 := y0.1
  have e1 := y1.1
  have e2 := y2.1
  have e3 := y3.1
  have e4 := y4.1
  have e5 := y5.1
  simp at e0 e1 e2 e3 e4 e5
  rw [e0, e1, e2, e3, e4, e5]
theorem opens_dds : OpensN Tryz.prog 26 Cd.dd.sq := opensN_sq Tryz.underlying26 (by kernel_rfl) (by decide) (of_decide_eq_true (by kernel_rfl)) opens_dd
theorem array15 {α : Type} {cs : Array α} (h : cs.size = 15) : ∃ c0 c1 c2 c3 c4 c5 c6 c7 c8 c9 c10 c11 c12 c13 c14, cs = #[c0, c1, c2, c3, c4, c5, c6, c7, c8, c9, c10, c11, c12, c13, c14] := by
  obtain ⟨l⟩ := cs
  match l, h with
  | [c0, c1, c2, c3, c4, c5, c6, c7, c8, c9, c10, c11, c12, c13, c14], _ => exact ⟨c0, c1, c2, c3, c4, c5, c6, c7, c8, c9, c10, c11, c12, c13, c14, rfl⟩
theorem cells_tab : Tryz.prog.cellsOf 28 = 15 := by kernel_rfl
set_option maxRecDepth 100000 in
theorem tab_open {H : Type} {enc : TypeId × Value → H} {w : World} {r : Reach} {b0 base : Nat} {spare : Nat → Bool} {held : Bool} {v : Value} {d : DataW H} {p : List MemPlace} (hv : Value.okWide Tryz.prog w r b0 28 v)
    (h : DataW.Trod enc Tryz.prog w base spare held 28 v d p) (hn : Near Tryz.prog 28 d) : ∃ (x : TAd) (t : TbC), v = tabV x t ∧ TabIs w x t := by
  obtain ⟨cs, rfl, hsz⟩ := okWide_struct Tryz.underlying28 hv
  obtain ⟨c0, c1, c2, c3, c4, c5, c6, c7, c8, c9, c10, c11, c12, c13, c14, rfl⟩ := array15 (hsz.trans cells_tab)
  obtain ⟨fuel, hf⟩ := h
  obtain ⟨h1, h2⟩ := near_fields Tryz.underlying28 (by kernel_rfl) (by kernel_rfl) hf hn
  obtain ⟨x0, y0⟩ := nearN_one (c := Cd.i) 0 _ h2 rfl (by simp [Value.cells]) (Opens.n (opens_int Tryz.underlying3))
  obtain ⟨x1, y1⟩ := nearN_one (c := Cd.i) 1 _ h2 rfl (by simp [Value.cells]) (Opens.n (opens_int Tryz.underlying3))
  obtain ⟨x2, y2⟩ := nearN_one (c := Cd.i) 2 _ h2 rfl (by simp [Value.cells]) (Opens.n (opens_int Tryz.underlying3))
  obtain ⟨x3, y3⟩ := nearN_one (c := Cd.i) 3 _ h2 rfl (by simp [Value.cells]) (Opens.n (opens_int Tryz.underlying3))
  obtain ⟨x4, y4⟩ := nearN_one (c := Cd.ss) 4 _ h2 rfl (by simp [Value.cells]) opens_strs
  obtain ⟨x5, y5⟩ := nearN_one (c := Cd.i) 5 _ h2 rfl (by simp [Value.cells]) (Opens.n (opens_int Tryz.underlying3))
  obtain ⟨x6, y6⟩ := nearN_one (c := Cd.is) 6 _ h2 rfl (by simp [Value.cells]) opens_ints
  obtain ⟨x7, y7⟩ := nearN_one (c := Cd.is) 7 _ h2 rfl (by simp [Value.cells]) opens_ints
  obtain ⟨x8, y8⟩ := nearN_one (c := Cd.th.sq) 8 _ h2 rfl (by simp [Value.cells]) opens_ths
  obtain ⟨x9, y9⟩ := nearN_one (c := Cd.ac.sq) 9 _ h2 rfl (by simp [Value.cells]) opens_acs
  obtain ⟨x10, y10⟩ := nearN_one (c := Cd.dd.sq) 10 _ h2 rfl (by simp [Value.cells]) opens_dds
  obtain ⟨x11, y11⟩ := nearN_one (c := Cd.is) 11 _ h2 rfl (by simp [Value.cells]) opens_ints
  obtain ⟨x12, y12⟩ := nearN_one (c := Cd.is) 12 _ h2 rfl (by simp [Value.cells]) opens_ints
  obtain ⟨x13, y13⟩ := nearN_one (c := Cd.is) 13 _ h2 rfl (by simp [Value.cells]) opens_ints
  obtain ⟨x14, y14⟩ := nearN_one (c := Cd.is) 14 _ h2 rfl (by simp [Value.cells]) opens_ints
  have e0 : c0 = .int .i64 x0 := (Reads.int (v := c0) y0).1
  have e1 : c1 = .int .i64 x1 := (Reads.int (v := c1) y1).1
  have e2 : c2 = .int .i64 x2 := (Reads.int (v := c2) y2).1
  have e3 : c3 = .int .i64 x3 := (Reads.int (v := c3) y3).1
  have e5 : c5 = .int .i64 x5 := (Reads.int (v := c5) y5).1
  obtain ⟨a4, k4, e4, _⟩ := Reads.len (v := c4) (Reads.q y4)
  obtain ⟨a6, k6, e6, _⟩ := Reads.len (v := c6) (Reads.q y6)
  obtain ⟨a7, k7, e7, _⟩ := Reads.len (v := c7) (Reads.q y7)
  obtain ⟨a8, k8, e8, _⟩ := Reads.len (v := c8) (Reads.q y8)
  obtain ⟨a9, k9, e9, _⟩ := Reads.len (v := c9) (Reads.q y9)
  obtain ⟨a10, k10, e10, _⟩ := Reads.len (v := c10) (Reads.q y10)
  obtain ⟨a11, k11, e11, _⟩ := Reads.len (v := c11) (Reads.q y11)
  obtain ⟨a12, k12, e12, _⟩ := Reads.len (v := c12) (Reads.q y12)
  obtain ⟨a13, k13, e13, _⟩ := Reads.len (v := c13) (Reads.q y13)
  obtain ⟨a14, k14, e14, _⟩ := Reads.len (v := c14) (Reads.q y14)
  subst e0 e1 e2 e3 e4 e5 e6 e7 e8 e9 e10 e11 e12 e13 e14
  exact ⟨⟨a4, a6, a7, a8, a9, a10, a11, a12, a13, a14, k4, k6, k7, k8, k9, k10, k11, k12, k13, k14⟩, ⟨x0, x1, x2, x3, x4, x5, x6, x7, x8, x9, x10, x11, x12, x13, x14⟩, rfl, ⟨y4, y6, y7, y8, y9, y10, y11, y12, y13, y14, y0.2, y1.2, y2.2, y3.2, y5.2⟩⟩
end Go.Proofs.YtjggklfegcejhaaGreat
