/- Contracts of attr.Has, view.has, view.shows. -/
import Derived.Test.YtjggklfegcejhaaGreatNest2
import Derived.IntWalk
namespace Go.Proofs.YtjggklfegcejhaaGreat
open Go.RowKit Go.Shelf
set_option linter.unusedVariables false
set_option linter.unusedSimpArgs false

theorem askedNo (q : Wv) (x f : Int) (w : World) (hm : q.l1 ≤ maxLen) (hx : isW q.l1 x = false) :
    Calls Tryz.prog 145 #[worldV q, .int .i64 x, .int .i64 f] w fun e w' => e = .returned (.int .i64 11) ∧ Below w.heap.size w w' := by
  have HI := Lib.hid (fun w' => isC q x w' hm)
  rw [hx] at HI
  clear hx hm
  unfold worldV worldC at *
  go_enter Tryz.func145, Tryz.ntmps145
  go_wp2_with fail
  refine (HI.out _).mono ?_
  rintro e w1 ⟨rfl, hb1⟩
  have HB1 := Lib.hid ((bl_oneA w _).trans (hb1.mono (bl_oneA w _).size))
  clear hb1
  go_wp2
  go_ret
  exact ⟨rfl, HB1.out⟩
theorem askedOk (q : Wv) (x f : Int) (w : World) (hm : q.l1 ≤ maxLen) (hx : isW q.l1 x = true) (h0 : 0 ≤ f) (h1 : f ≤ 15) :
    Calls Tryz.prog 145 #[worldV q, .int .i64 x, .int .i64 f] w fun e w' => e = .returned (.int .i64 0) ∧ Below w.heap.size w w' := by
  have HI := Lib.hid (fun w' => isC q x w' hm)
  rw [hx] at HI
  clear hx hm
  unfold worldV worldC at *
  go_enter Tryz.func145, Tryz.ntmps145
  go_wp2_with fail
  refine (HI.out _).mono ?_
  rintro e w1 ⟨rfl, hb1⟩
  have HB1 := Lib.hid ((bl_oneA w _).trans (hb1.mono (bl_oneA w _).size))
  clear hb1
  go_wp2
  go_ret
  exact ⟨rfl, HB1.out⟩
theorem and_one (a : Int) (h0 : 0 ≤ a) (h1 : a ≤ 65535) : bits BinOp.and IntKind.i64 a 1 = a % 2 := by
  obtain ⟨a, rfl⟩ : ∃ k : Nat, a = k := ⟨a.toNat, by omega⟩
  show IntKind.i64.wrap ((BitVec.ofInt 64 (a : Int) &&& BitVec.ofInt 64 ((1 : Nat) : Int)).toNat : Int) = _
  have e : (BitVec.ofInt 64 (a : Int) &&& BitVec.ofInt 64 ((1 : Nat) : Int)).toNat = a % 2 := by
    rw [BitVec.toNat_and, BitVec.ofInt_natCast, BitVec.ofInt_natCast, BitVec.toNat_ofNat, BitVec.toNat_ofNat, Nat.mod_eq_of_lt (by omega), Nat.mod_eq_of_lt (by omega), Nat.and_one_is_mod]
  rw [e, Int.natCast_emod]
  exact IntWalk.i64_in _ (by omega)
theorem shr_bd (m f : Int) (h0 : 0 ≤ m) (h1 : m ≤ 65535) : 0 ≤ m / 2 ^ f.toNat ∧ m / 2 ^ f.toNat ≤ 65535 := by
  have hp : (0 : Int) < 2 ^ f.toNat := Int.pow_pos (by omega)
  refine ⟨Int.ediv_nonneg h0 (Int.le_of_lt hp), Int.le_trans (Int.ediv_le_self _ h0) h1⟩
/-- A bit of a number. -/
def bitB (m f : Int) : Bool := decide (m / 2 ^ f.toNat % 2 = 1)
theorem hasAt (q : Wv) (d : WdC) (x f : Int) (n : Nat) (w : World) (hw : WIs w q d) (hl : WLen q d n) (h4 : q.l4 = n) (hx : isW n x = true) (h0 : 0 ≤ f) (h1 : f ≤ 15) (hfl : ∀ m ∈ d.fl, 0 ≤ m ∧ m ≤ 65535) :
    Calls Tryz.prog 141 #[worldV q, .int .i64 x, .int .i64 f] w fun e w' => e = .returned (.tuple #[.bool (bitB (atW d.fl x) f), .int .i64 0]) ∧ Below w.heap.size w w' := by
  have hlt := isW_lt hx
  have h5 : d.fl.length = n := by rw [← hw.fl.len, h4]
  obtain ⟨bc, oc, hac, hbc, hcc, _⟩ := hw.fl.at_ (i := x.toNat) (by rw [h5]; exact hlt.1)
  have hcx := hcc x.toNat (by rw [h5]; exact hlt.1)
  have hfm := hfl _ (List.getElem_mem (n := x.toNat) (by rw [h5]; exact hlt.1))
  rw [atW_get (by rw [h5]; exact hlt.1)]
  generalize d.fl[x.toNat]'(by rw [h5]; exact hlt.1) = m at *
  have HI := Lib.hid (fun w' => askedOk q x f w' (by rw [hl.h1]; exact hl.few) (by rw [hl.h1]; exact hx) h0 h1)
  have hm := hl.few
  unfold maxLen at hm
  have HB : Hid (∀ W1, Below w.heap.size (w.alloc (.cells (worldC q).toArray 31)) W1 → W1.cell? ⟨bc, oc + x.toNat, none⟩ = some (.int .i64 m)) := Lib.hid (fun W1 hb => (hb.cell (p := ⟨bc, oc + x.toNat, none⟩) hbc).trans (((bl_oneA w _).cell (p := ⟨bc, oc + x.toNat, none⟩) hbc).trans hcx))
  clear hw hfl hcc hcx h5 hl hx
  obtain ⟨hx1', hx2', hx3'⟩ := hlt
  obtain ⟨hm0, hm1⟩ := hfm
  unfold worldV worldC at *
  obtain ⟨a0, a1, a2, a3, a4, a5, a6, l0, l1, l2, l3, l4, l5, l6, c0, c1, c2, c3, c4, c5, c6, s, sc, tu, ov, it, go⟩ := q
  simp only at *
  subst h4 hac
  go_enter Tryz.func141, Tryz.ntmps141
  go_wp2_with fail
  refine (HI.out _).mono ?_
  rintro e w1 ⟨rfl, hb1⟩
  have HB1 := Lib.hid ((bl_oneA w _).trans (hb1.mono (bl_oneA w _).size))
  have hcx := HB.out w1 (hb1.mono (bl_oneA w _).size)
  have b4 := (hb1.cell (p := ⟨w.heap.size, 4, none⟩) (by simp)).trans ((BK.new w (worldC ⟨a0, a1, a2, a3, some ⟨bc, oc, none⟩, a5, a6, l0, l1, l2, l3, l4, l5, l6, c0, c1, c2, c3, c4, c5, c6, s, sc, tu, ov, it, go⟩) 31).cell 4)
  simp only [worldC, List.getElem?_cons_zero, List.getElem?_cons_succ] at b4
  clear hb1
  go_wp2
  go_ret2
  exact ⟨by rw [and_one _ (shr_bd m f hm0 hm1).1 (shr_bd m f hm0 hm1).2]; unfold bitB; congr 4, HB1.out⟩
theorem hasNone (q : Wv) (x f : Int) (w : World) (hm : q.l1 ≤ maxLen) (hx : isW q.l1 x = false) :
    Calls Tryz.prog 141 #[worldV q, .int .i64 x, .int .i64 f] w fun e w' => e = .returned (.tuple #[.bool false, .int .i64 11]) ∧ Below w.heap.size w w' := by
  have HI := Lib.hid (fun w' => askedNo q x f w' hm hx)
  clear hm hx
  unfold worldV worldC at *
  go_enter Tryz.func141, Tryz.ntmps141
  go_wp2_with fail
  refine (HI.out _).mono ?_
  rintro e w1 ⟨rfl, hb1⟩
  have HB1 := Lib.hid ((bl_oneA w _).trans (hb1.mono (bl_oneA w _).size))
  clear hb1
  go_wp2
  go_ret2
  exact ⟨rfl, HB1.out⟩
/-- Has a thing a flag? -/
def hasB (fl : List Int) (n : Nat) (x f : Int) : Bool := isW n x && bitB (atW fl x) f
/-- What the functions of a view ask of a world. -/
structure WOk (w : World) (q : Wv) (d : WdC) (n : Nat) : Prop where
  is : WIs w q d
  len : WLen q d n
  l4 : q.l4 = n
  pos : 0 < n
  few : n ≤ 1000
  fl : ∀ m ∈ d.fl, 0 ≤ m ∧ m ≤ 65535
  nest : NestW d.pa d.ch d.nx n
theorem WOk.below {w w' : World} {q : Wv} {d : WdC} {n : Nat} (h : WOk w q d n) (hb : Below w.heap.size w w') : WOk w' q d n := ⟨h.is.below hb, h.len, h.l4, h.pos, h.few, h.fl, h.nest⟩
theorem WOk.m1 {w : World} {q : Wv} {d : WdC} {n : Nat} (h : WOk w q d n) : q.l1 ≤ maxLen := by rw [h.len.h1]; exact h.len.few
theorem attrHas (q : Wv) (d : WdC) (x f : Int) (n : Nat) (w : World) (h : WOk w q d n) (h0 : 0 ≤ f) (h1 : f ≤ 15) :
    Calls Tryz.prog 141 #[worldV q, .int .i64 x, .int .i64 f] w fun e w' => e = .returned (.tuple #[.bool (hasB d.fl n x f), .int .i64 (if isW n x then 0 else 11)]) ∧ Below w.heap.size w w' := by
  unfold hasB
  cases hx : isW n x with
  | false => exact hasNone q x f w h.m1 (by rw [h.len.h1]; exact hx)
  | true => exact hasAt q d x f n w h.is h.len h.l4 hx h0 h1 h.fl
theorem hasC (q : Wv) (d : WdC) (x f : Int) (n : Nat) (w : World) (h : WOk w q d n) (h0 : 0 ≤ f) (h1 : f ≤ 15) :
    Calls Tryz.prog 128 #[worldV q, .int .i64 x, .int .i64 f] w fun e w' => e = .returned (.bool (hasB d.fl n x f)) ∧ Below w.heap.size w w' := by
  have HI := Lib.hid (attrHas q d x f n (w.alloc (.cells (worldC q).toArray 31)) (h.below (bl_oneA _ _)) h0 h1)
  generalize hasB d.fl n x f = b at *
  generalize (if isW n x then (0 : Int) else 11) = z at *
  clear h h0 h1
  unfold worldV worldC at *
  go_enter Tryz.func128, Tryz.ntmps128
  go_wp2_with fail
  refine HI.out.mono ?_
  rintro e w1 ⟨rfl, hb1⟩
  have HB1 := Lib.hid ((bl_oneA w _).trans (hb1.mono (bl_oneA w _).size))
  clear hb1
  go_wp2
  go_ret
  exact ⟨rfl, HB1.out⟩
/-- Does a thing show what is in it? -/
def showB (fl : List Int) (n : Nat) (x : Int) : Bool := !hasB fl n x 2 || hasB fl n x 1
theorem showsC (q : Wv) (d : WdC) (x : Int) (n : Nat) (w : World) (h : WOk w q d n) :
    Calls Tryz.prog 140 #[worldV q, .int .i64 x] w fun e w' => e = .returned (.bool (showB d.fl n x)) ∧ Below w.heap.size w w' := by
  have HI := Lib.hid (hasC q d x 2 n (w.alloc (.cells (worldC q).toArray 31)) (h.below (bl_oneA _ _)) (by decide) (by decide))
  have HI2 := Lib.hid (fun w' (hb : Below w.heap.size w w') => hasC q d x 1 n w' (h.below hb) (by decide) (by decide))
  have HK : Hid (∀ w1, Below (w.alloc (.cells (worldC q).toArray 31)).heap.size (w.alloc (.cells (worldC q).toArray 31)) w1 → BK w1 w.heap.size (worldC q) 31) := Lib.hid (fun w1 hb => (BK.new w (worldC q) 31).below hb)
  unfold showB
  generalize hasB d.fl n x 2 = b at *
  generalize hasB d.fl n x 1 = c at *
  clear h
  unfold worldV at *
  cases b
  · unfold worldC at *
    go_enter Tryz.func140, Tryz.ntmps140
    go_wp2_with fail
    refine HI.out.mono ?_
    rintro e w1 ⟨rfl, hb1⟩
    have HB1 := Lib.hid ((bl_oneA w _).trans (hb1.mono (bl_oneA w _).size))
    clear hb1
    go_wp2
    go_ret
    exact ⟨rfl, HB1.out⟩
  · go_enter Tryz.func140, Tryz.ntmps140
    unfold worldC at HI HI2 ⊢
    go_wp2_with fail
    refine HI.out.mono ?_
    rintro e w1 ⟨rfl, hb1⟩
    have HB1 := Lib.hid ((bl_oneA w _).trans (hb1.mono (bl_oneA w _).size))
    have HW := Lib.hid (HK.out w1 hb1)
    obtain ⟨b0, b1, b2, b3, b4, b5, b6, b7, b8, b9, bA, bB, bC⟩ := wd13 (HW.out)
    clear hb1
    go_wp2_with fail
    refine (HI2.out _ HB1.out).mono ?_
    rintro e w2 ⟨rfl, hb2⟩
    have HB2 := Lib.hid (HB1.out.trans (hb2.mono HB1.out.size))
    clear hb2
    go_wp2
    go_ret
    exact ⟨rfl, HB2.out⟩
end Go.Proofs.YtjggklfegcejhaaGreat
