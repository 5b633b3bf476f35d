/- The layout: contracts of (*layout).place.; The layout: contracts of (*layout).far, grow.; The layout: contract of (*layout).grow. -/
import Derived.Test.YtbcpopakdlplgaaDoorAsmW
import Derived.Deep.RegionHeld3
import Derived.StillTailTactics
import Derived.Test.YtbcpopakdlplgaaDoorAsmN2
import Derived.BigQuiet
namespace Go.Proofs.YtbcpopakdlplgaaDoor
open Go.RowKit Go.PlainAid Go.Maps
set_option linter.unusedVariables false
set_option linter.unusedSimpArgs false

/-- A row of whole numbers, by a function. -/
def rowF (n : Nat) (f : Nat → Int) : List Value := (List.range n).map fun i => .int .i64 (f i)
theorem rowF_len (n : Nat) (f : Nat → Int) : (rowF n f).length = n := by simp [rowF]
theorem rowF_at {n : Nat} {f : Nat → Int} {i : Nat} (h : i < n) : (rowF n f)[i]? = some (.int .i64 (f i)) := by
  unfold rowF; rw [List.getElem?_map, List.getElem?_range h]; rfl
theorem rowF_set {n : Nat} {f : Nat → Int} {k : Nat} (v : Int) : (rowF n f).set k (.int .i64 v) = rowF n (fun i => if i = k then v else f i) := by
  refine List.ext_getElem? fun i => ?_
  by_cases hi : i < n
  · rw [rowF_at hi, List.getElem?_set]
    by_cases e : k = i
    · subst e; simp [rowF_len, hi]
    · rw [if_neg e, rowF_at hi, if_neg (Ne.symm e)]
  · rw [List.getElem?_eq_none (by simp [rowF_len]; omega), List.getElem?_eq_none (by simp [rowF_len]; omega)]
theorem rowF_congr {n : Nat} {f g : Nat → Int} (h : ∀ i, i < n → f i = g i) : rowF n f = rowF n g := by
  unfold rowF
  exact List.map_congr_left fun i hi => by rw [h i (List.mem_range.1 hi)]
/-- The labels' places that a walk over the first k sees. -/
def labK (l : List IN) (W : Nat → Nat) (k : Nat) : List (Int × Int) := ((List.range k).filter fun i => isL (atI l i)).map fun i => ((atI l i).arg, (posN W i : Int))
theorem labK_no {l : List IN} {W : Nat → Nat} {k : Nat} (h : isL (atI l k) = false) : labK l W (k + 1) = labK l W k := by
  unfold labK; rw [List.range_succ, List.filter_append]; simp [h]
theorem labK_yes {l : List IN} {W : Nat → Nat} {k : Nat} (h : isL (atI l k) = true) : labK l W (k + 1) = labK l W k ++ [((atI l k).arg, (posN W k : Int))] := by
  unfold labK; rw [List.range_succ, List.filter_append]; simp [h]
/-- A layout in memory: its struct, its sizes, its places, its labels. -/
structure LayIs (w : World) (B gs gz ga gm n c : Nat) (ad : Option Addr) (W : Nat → Nat) (A : Nat → Int) (ps : List (Int × Int)) (nm : Nat) : Prop where
  st : BK w gs [.slice ad n c, .slice (some ⟨gz, 0, none⟩) n n, .slice (some ⟨ga, 0, none⟩) (n + 1) (n + 1), .map (some gm)] 52
  sz : BK w gz (rowF n (fun i => (W i : Int))) 3
  pl : BK w ga (rowF (n + 1) A) 3
  mp : NumIs w gm nm ps
  d1 : gs ≠ gz
  d2 : gs ≠ ga
  d3 : gs ≠ gm
  d4 : gz ≠ ga
  d5 : gz ≠ gm
  d6 : ga ≠ gm
  b1 : B ≤ gs
  b2 : B ≤ gz
  b3 : B ≤ ga
  b4 : B ≤ gm
section
variable {w w' : World} {B gs gz ga gm n c : Nat} {ad : Option Addr} {W : Nat → Nat} {A : Nat → Int} {ps : List (Int × Int)} {nm : Nat}
theorem LayIs.below (h : LayIs w B gs gz ga gm n c ad W A ps nm) (hb : Below w.heap.size w w') : LayIs w' B gs gz ga gm n c ad W A ps nm :=
  { h with st := h.st.below hb, sz := h.sz.below hb, pl := h.pl.below hb, mp := h.mp.below hb }
theorem LayIs.drew (h : LayIs w B gs gz ga gm n c ad W A ps nm) : LayIs w.drew B gs gz ga gm n c ad W A ps nm := h.below ((Below.refl _ _).drew)
theorem LayIs.drewN (h : LayIs w B gs gz ga gm n c ad W A ps nm) (q : Nat) : LayIs (w.drewN q) B gs gz ga gm n c ad W A ps nm := h.below (bl_drewN (Below.refl _ _) q)
theorem LayIs.setA (h : LayIs w B gs gz ga gm n c ad W A ps nm) (k : Nat) (v : Int) : LayIs (w.setCell ⟨ga, k, none⟩ (.int .i64 v)) B gs gz ga gm n c ad W (fun i => if i = k then v else A i) ps nm :=
  { h with st := h.st.setO (Ne.symm h.d2) _ _, sz := h.sz.setO (Ne.symm h.d4) _ _, pl := by rw [← rowF_set]; exact h.pl.set k _, mp := h.mp.kept (gr_set _ _ _ _) (by simpa using h.d6) }
theorem LayIs.setZ (h : LayIs w B gs gz ga gm n c ad W A ps nm) (k v : Nat) : LayIs (w.setCell ⟨gz, k, none⟩ (.int .i64 v)) B gs gz ga gm n c ad (fun i => if i = k then v else W i) A ps nm :=
  have hz : BK (w.setCell ⟨gz, k, none⟩ (.int .i64 v)) gz (rowF n (fun i => (((if i = k then v else W i : Nat)) : Int))) 3 := by
    have e : (fun i => (((if i = k then v else W i : Nat)) : Int)) = fun i => if i = k then (v : Int) else (W i : Int) := by funext i; split <;> rfl
    rw [e, ← rowF_set]; exact h.sz.set k _
  { h with st := h.st.setO (Ne.symm h.d1) _ _, sz := hz, pl := h.pl.setO h.d4 _ _, mp := h.mp.kept (gr_set _ _ _ _) (by simpa using h.d5) }
theorem LayIs.put (h : LayIs w B gs gz ga gm n c ad W A ps nm) (hn : nm < maxLen) {a v : Int} (ha : Wf a) (hv : Wf v) :
    ∃ w', (Instr.mapUpdate 44 (.map (some gm)) (.int .i64 a) (.int .i64 v)).run Tryd.prog w = .ok () w' ∧ LayIs w' B gs gz ga gm n c ad W A (ps ++ [(a, v)]) (nm + 1) ∧ w.grownBy w' (some gm) := by
  obtain ⟨w', h1, h2, h3⟩ := h.mp.update hn ha hv
  exact ⟨w', h1, { h with st := h.st.kept h3 (fun j hj => by cases hj; exact Ne.symm h.d3), sz := h.sz.kept h3 (fun j hj => by cases hj; exact Ne.symm h.d5), pl := h.pl.kept h3 (fun j hj => by cases hj; exact Ne.symm h.d6), mp := h2 }, h3⟩
theorem LayIs.cells (h : LayIs w B gs gz ga gm n c ad W A ps nm) : w.cell? ⟨gs, 0, none⟩ = some (.slice ad n c) ∧ w.cell? ⟨gs, 1, none⟩ = some (.slice (some ⟨gz, 0, none⟩) n n) ∧ w.cell? ⟨gs, 2, none⟩ = some (.slice (some ⟨ga, 0, none⟩) (n + 1) (n + 1)) ∧ w.cell? ⟨gs, 3, none⟩ = some (.map (some gm)) :=
  ⟨h.st.cell 0, h.st.cell 1, h.st.cell 2, h.st.cell 3⟩
theorem LayIs.mono (h : LayIs w B gs gz ga gm n c ad W A ps nm) {nm' : Nat} (hn : nm ≤ nm') : LayIs w B gs gz ga gm n c ad W A ps nm' :=
  { h with mp := by obtain ⟨D, h1, h2⟩ := h.mp; exact ⟨D, h1.mono hn, h2⟩ }
theorem LayIs.toA (h : LayIs w B gs gz ga gm n c ad W A ps nm) {A' : Nat → Int} (e : ∀ i, i < n + 1 → A i = A' i) : LayIs w B gs gz ga gm n c ad W A' ps nm :=
  { h with pl := by rw [← rowF_congr e]; exact h.pl }
end
theorem posN_succ (W : Nat → Nat) (k : Nat) : posN W (k + 1) = posN W k + W k := rfl
/-- What place has done behind k rounds. -/
def placeA (W : Nat → Nat) (A : Nat → Int) (k : Nat) : Nat → Int := fun i => if i < k then (posN W i : Int) else A i
theorem placeA_step (W : Nat → Nat) (A : Nat → Int) (k : Nat) : (fun i => if i = k then (posN W k : Int) else placeA W A k i) = placeA W A (k + 1) := by
  funext i
  unfold placeA
  by_cases e : i = k
  · subst e; simp
  · rw [if_neg e]
    by_cases h : i < k
    · rw [if_pos h, if_pos (by omega)]
    · rw [if_neg h, if_neg (by omega)]
set_option maxRecDepth 100000 in
set_option maxHeartbeats 8000000 in
theorem placeC (l : List IN) (w : World) (B gs gz ga gm n c : Nat) (ad : Option Addr) (W : Nat → Nat) (A : Nat → Int) (ps : List (Int × Int)) (nm : Nat) (hY : LayIs w B gs gz ga gm n c ad W A ps nm) (hC : CellsI w ad l)
    (hn : l.length = n) (hl : n ≤ 10000) (hW : ∀ i, W i ≤ 3) (hnm : nm ≤ 9000000000000000000) (hB : B ≤ w.heap.size) (hadB : ∀ b off, ad = some ⟨b, off, none⟩ → 0 < n → b < B) :
    Calls Tryd.prog 30 #[.pointer (some ⟨gs, 0, none⟩)] w fun e w' => e = .returned (.tuple #[]) ∧ LayIs w' B gs gz ga gm n c ad W (fun i => (posN W i : Int)) (ps ++ labK l W n) (nm + n) ∧ Below B w w' := by
  have HY := Lib.hid hY
  have HC := Lib.hid hC
  have HN := Lib.hid hn
  have HAB := Lib.hid hadB
  have hp3 := posN_three hW
  have HP3 := Lib.hid hp3
  obtain ⟨c0, c1, c2, c3⟩ := hY.cells
  have HW := Lib.hid hW
  clear hY hC hn hp3 hadB hW
  go_enter Tryd.func30, Tryd.ntmps30
  go_wp2
  clear c0 c1 c2 c3
  go_loopw [2, 10] (fun s i wr => ∃ k : Nat, i = .int .i64 k ∧ k ≤ n ∧ s = .int .i64 (posN W k) ∧ B ≤ wr.heap.size ∧ Hid (LayIs wr B gs gz ga gm n c ad W (placeA W A k) (ps ++ labK l W k) (nm + k)) ∧ Hid (Below B w wr)) (fun _ i _ => n - (intOf i).toNat)
  case atStart => exact ⟨0, rfl, Nat.zero_le _, rfl, hB, Lib.hid (by have := HY.out; simp [labK]; exact this), Lib.hid (Below.refl _ _)⟩
  case round =>
    obtain ⟨k, rfl, hk, rfl, hBz, HL, HB⟩ := hrel
    have hp := HP3.out k
    have hwk := HW.out k
    by_cases hlt : k < n
    · have hkl : k < l.length := by rw [HN.out]; exact hlt
      obtain ⟨b, off, ha, hblt, hw, hx0, hx1⟩ := HC.out k hkl
      have hbB := HAB.out b off ha (by omega)
      rw [← HB.out.cell (p := ⟨b, off + k * 2, none⟩) hbB] at hx0
      rw [← HB.out.cell (p := ⟨b, off + k * 2 + 1, none⟩) hbB] at hx1
      have hat : atI l k = l[k] := atI_get hkl
      subst ha
      have HLn := Lib.hid (labK_no (l := l) (W := W) (k := k))
      have HLy := Lib.hid (labK_yes (l := l) (W := W) (k := k))
      rw [hat] at HLn HLy
      obtain ⟨x, hx⟩ : ∃ x, l[k] = x := ⟨_, rfl⟩
      rw [hx] at hw hx0 hx1 HLn HLy
      clear hat hx
      have hk0 : (0 : Int) ≤ (k : Int) := by omega
      have hk1 : (k : Int) < (n : Int) := by omega
      have hk2 : (k : Int) < ((n + 1 : Nat) : Int) := by omega
      obtain ⟨P, hP⟩ : ∃ P, posN W k = P := ⟨_, rfl⟩
      have HPP := Lib.hid hP
      rw [hP] at hp ⊢
      clear hP
      have hX0 := HL.out.below (bl_one wr (.cells #[.int .i64 x.op, .int .i64 x.arg] 37))
      have HX0 := Lib.hid hX0
      obtain ⟨d0, d1, d2, d3⟩ := hX0.cells
      have e0 := hX0.pl.cell k
      rw [rowF_at (by omega)] at e0
      have e1 := hX0.pl.fr k
      have hX1 := hX0.setA k P
      have hK1 := (BK.new wr [.int .i64 x.op, .int .i64 x.arg] 37).setO (b := ga) (by have := HL.out.pl.lt; omega) k (.int .i64 (P : Int))
      have hB1 : Below B w ((wr.alloc (.cells #[.int .i64 x.op, .int .i64 x.arg] 37)).setCell ⟨ga, k, none⟩ (.int .i64 (P : Int))) := ((HB.out.alloc hBz _).setCell (by have := HL.out.b3; exact this) _)
      have hBz1 : B ≤ ((wr.alloc (.cells #[.int .i64 x.op, .int .i64 x.arg] 37)).setCell ⟨ga, k, none⟩ (.int .i64 (P : Int))).heap.size := by simp [World.setCell]; omega
      obtain ⟨X1, hX⟩ : ∃ X1, (wr.alloc (.cells #[.int .i64 x.op, .int .i64 x.arg] 37)).setCell ⟨ga, k, none⟩ (.int .i64 (P : Int)) = X1 := ⟨_, rfl⟩
      replace hK1 : BK X1 wr.heap.size [.int .i64 x.op, .int .i64 x.arg] 37 := by rw [← hX]; exact hK1
      rw [hX] at hX1 hB1 hBz1
      rw [← HPP.out, placeA_step] at hX1
      have HX1 := Lib.hid hX1
      have HB1 := Lib.hid hB1
      obtain ⟨f0, f1, f2, f3⟩ := hX1.cells
      have f4 := hX1.sz.cell k
      rw [rowF_at hlt] at f4
      have HK1 := Lib.hid hK1
      have g0 := hK1.cell 0
      have g1 := hK1.cell 1
      simp only [List.getElem?_cons_zero, List.getElem?_cons_succ] at g0 g1
      clear hX0 hX1 hK1 hB1
      cases hL : isL x with
      | false =>
        have hne : (x.op == 38) = false := by unfold isL at hL; simpa using hL
        have HL2 : Hid (LayIs X1 B gs gz ga gm n c (some ⟨b, off, none⟩) W (placeA W A (k + 1)) (ps ++ labK l W (k + 1)) (nm + (k + 1))) := Lib.hid (by rw [HLn.out hL]; exact HX1.out.mono (by omega))
        have hps : posN W (k + 1) = P + W k := by rw [posN_succ, HPP.out]
        have HPS := Lib.hid hps
        clear hL hps
        go_wp2
        go_roundw
        case rel => exact ⟨k + 1, by go_num, by omega, by rw [HPS.out]; go_num, hBz1, HL2, HB1⟩
        case measure => simp [intOf]; omega
      | true =>
        have hne : (x.op == 38) = true := by unfold isL at hL; simpa using hL
        obtain ⟨w2, hrun, hl2, hg2⟩ := HX1.out.drew.put (by unfold maxLen; omega) hw.2 (v := (P : Int)) (by unfold Wf; omega)
        have hps : posN W (k + 1) = P + W k := by rw [posN_succ, HPP.out]
        have HPS := Lib.hid hps
        have HL2 : Hid (LayIs w2 B gs gz ga gm n c (some ⟨b, off, none⟩) W (placeA W A (k + 1)) (ps ++ labK l W (k + 1)) (nm + (k + 1))) := Lib.hid (by rw [HLy.out hL, HPP.out, ← List.append_assoc]; exact hl2)
        have HB2 : Hid (Below B w w2) := Lib.hid (HB1.out.drew.grown hg2 hBz1 (fun q hq => by cases hq; exact HX1.out.b4))
        have hBz2 : B ≤ w2.heap.size := Nat.le_trans hBz1 hg2.size
        obtain ⟨i0, i1, i2, i3⟩ := hl2.cells
        have i4 := hl2.sz.cell k
        rw [rowF_at hlt] at i4
        have i5 := (HK1.out.drewN 1 |>.kept (w' := w2) hg2 (fun q hq => by cases hq; have := HL.out.mp.lt; omega)).cell 1
        simp only [List.getElem?_cons_zero, List.getElem?_cons_succ] at i5
        clear hL hps hl2 hg2
        go_wp2_with fail
        go_region_held3 (fun w' => w'.cell? ⟨gs, 3, none⟩ = some (.map (some gm)) ∧ w'.cell? ⟨wr.heap.size, 1, none⟩ = some (.int .i64 x.arg)) (first | (go_keep; done) | trivial) (fail)
        go_wp2
        go_roundw
        case rel => exact ⟨k + 1, by go_num, by omega, by rw [HPS.out]; go_num, hBz2, HL2, HB2⟩
        case measure => simp [intOf]; omega
    · have hkn : k = n := by omega
      subst hkn
      obtain ⟨P, hP⟩ : ∃ P, posN W k = P := ⟨_, rfl⟩
      have HPP := Lib.hid hP
      rw [hP] at hp ⊢
      have hk0 : (0 : Int) ≤ (k : Int) := by omega
      have hk2 : (k : Int) < ((k + 1 : Nat) : Int) := by omega
      have hk3 : (k : Int) < (k : Int) + 1 := by omega
      obtain ⟨d0, d1, d2, d3⟩ := HL.out.cells
      have e0 := HL.out.pl.cell k
      rw [rowF_at (by omega)] at e0
      have e1 := HL.out.pl.fr k
      have hfin : LayIs (wr.setCell ⟨ga, k, none⟩ (.int .i64 (P : Int))).drew B gs gz ga gm k c ad W (fun i => (posN W i : Int)) (ps ++ labK l W k) (nm + k) := by
        refine ((HL.out.setA k P).drew).toA fun i hi => ?_
        have := congrFun (placeA_step W A k) i
        rw [hP] at this
        rw [this]; unfold placeA; rw [if_pos hi]
      have HF := Lib.hid hfin
      have HBF : Hid (Below B w (wr.setCell ⟨ga, k, none⟩ (.int .i64 (P : Int))).drew) := Lib.hid ((HB.out.setCell (by have := HL.out.b3; exact this) _).drew)
      obtain ⟨j0, _, j2, _⟩ := hfin.cells
      clear hfin hP
      go_wp2_with fail
      go_region_held3 (fun w' => w'.cell? ⟨gs, 0, none⟩ = some (.slice ad k c) ∧ w'.cell? ⟨gs, 2, none⟩ = some (.slice (some ⟨ga, 0, none⟩) (k + 1) (k + 1))) (first | (exact ⟨j0, j2⟩) | (go_keep; done)) (fail)
      go_wp2
      go_end0
      exact ⟨rfl, HF.out, HBF.out⟩
end Go.Proofs.YtbcpopakdlplgaaDoor
namespace Go.Proofs.YtbcpopakdlplgaaDoor
open Go.RowKit Go.PlainAid Go.Maps
set_option linter.unusedVariables false
set_option linter.unusedSimpArgs false

set_option maxRecDepth 100000 in
set_option maxHeartbeats 8000000 in
theorem farC (l : List IN) (k : Nat) (w : World) (B gs gz ga gm n c : Nat) (ad : Option Addr) (W : Nat → Nat) (A : Nat → Int) (ps : List (Int × Int)) (nm : Nat) (V Z : Int) (hY : LayIs w B gs gz ga gm n c ad W A ps nm) (hC : CellsI w ad l)
    (hn : l.length = n) (hl : n ≤ 10000) (hk : k < n) (hV : lastN ps (atI l k).arg 0 = V) (hVb : -1000000 ≤ V ∧ V ≤ 1000000) (hZ : A (k + 1) = Z) (hZb : 0 ≤ Z ∧ Z ≤ 1000000) :
    Calls Tryd.prog 31 #[.pointer (some ⟨gs, 0, none⟩), .int .i64 k] w fun e w' => e = .returned (.int .i64 (V - Z)) ∧ ∃ q, w' = w.drewN q := by
  have hkl : k < l.length := by omega
  obtain ⟨b, off, ha, hblt, hw, hx0, hx1⟩ := hC k hkl
  have hat : atI l k = l[k] := atI_get hkl
  subst ha
  rw [hat] at hV
  obtain ⟨x, hx⟩ : ∃ x, l[k] = x := ⟨_, rfl⟩
  rw [hx] at hw hx0 hx1 hV
  obtain ⟨c0, c1, c2, c3⟩ := hY.cells
  have c4 := hY.pl.cell (k + 1)
  rw [rowF_at (by omega), hZ] at c4
  have hlk := hY.mp.look hw.2
  rw [hV] at hlk
  have a1 : (0 : Int) ≤ (k : Int) := by omega
  have a2 : (k : Int) < (n : Int) := by omega
  have a3 : IntKind.i64.wrap ((k : Int) + 1) = (k : Int) + 1 := IntWalk.i64_in _ (by omega)
  have a4 : (0 : Int) ≤ (k : Int) + 1 := by omega
  have a5 : (k : Int) + 1 < ((n + 1 : Nat) : Int) := by omega
  have a6 : ((k : Int) + 1).toNat = k + 1 := by omega
  have a7 : IntKind.i64.wrap (V - Z) = V - Z := IntWalk.i64_in _ (by omega)
  have HW := Lib.hid hw
  have hlkD : (Instr.lookup 44 (.map (some gm)) (.int .i64 x.arg) false).run Tryd.prog w.drew = .ok (.int .i64 V) w.drew := by have := hY.drew.mp.look hw.2; rw [hV] at this; exact this
  clear hY hC hn hkl hat hx hV hZ hw hVb hZb
  go_enter Tryd.func31, Tryd.ntmps31
  go_wp2_with fail
  go_region_held3 (fun w' => w'.cell? ⟨gs, 0, none⟩ = some (.slice (some ⟨b, off, none⟩) n c) ∧ w'.cell? ⟨gs, 2, none⟩ = some (.slice (some ⟨ga, 0, none⟩) (n + 1) (n + 1)) ∧ w'.cell? ⟨gs, 3, none⟩ = some (.map (some gm)) ∧ w'.cell? ⟨ga, k + 1, none⟩ = some (.int .i64 Z) ∧ w'.cell? ⟨b, off + k * 2 + 1, none⟩ = some (.int .i64 x.arg)) (first | (go_keep; done) | trivial) (fail)
  go_wp2
  go_ret
  exact ⟨rfl, 1, rfl⟩

/-! ### grow -/
theorem CellsI.belowB {w w' : World} {ad : Option Addr} {l : List IN} {B : Nat} (h : CellsI w ad l) (hb : Below B w w') (hB : ∀ b off, ad = some ⟨b, off, none⟩ → 0 < l.length → b < B) (hz : B ≤ w'.heap.size) : CellsI w' ad l := fun i hi => by
  obtain ⟨b, off, e, h1, h2, h3, h4⟩ := h i hi
  have hbB := hB b off e (by omega)
  exact ⟨b, off, e, by omega, h2, by rw [hb.cell (p := ⟨b, off + i * 2, none⟩) hbB]; exact h3, by rw [hb.cell (p := ⟨b, off + i * 2 + 1, none⟩) hbB]; exact h4⟩
theorem labK_last {l : List IN} {W : Nat → Nat} {t : Nat} {a : Int} (ht : isL (atI l t) = true ∧ (atI l t).arg = a) (hu : ∀ i, isL (atI l i) = true → (atI l i).arg = a → i < l.length → i = t) : ∀ (m : Nat) (v : Int), m ≤ l.length → lastN (labK l W m) a v = if t < m then (posN W t : Int) else v
  | 0, v, _ => by simp [labK, lastN]
  | m + 1, v, hm => by
    have ih := labK_last (W := W) ht hu m v (by omega)
    cases hL : isL (atI l m) with
    | false =>
      rw [labK_no hL, ih]
      have : t ≠ m := fun e => by rw [← e, ht.1] at hL; cases hL
      by_cases h : t < m
      · rw [if_pos h, if_pos (by omega)]
      · rw [if_neg h, if_neg (by omega)]
    | true =>
      rw [labK_yes hL, lastN_app, ih]
      by_cases e : (atI l m).arg = a
      · have := hu m hL e (by omega)
        subst this
        rw [if_pos (Nat.lt_succ_self _)]
        simp [lastN, e]
      · have : t ≠ m := fun h => e (by rw [← h]; exact ht.2)
        simp only [lastN, if_neg e]
        by_cases h : t < m
        · rw [if_pos h, if_pos (by omega)]
        · rw [if_neg h, if_neg (by omega)]
theorem lab_target {l : List IN} {W : Nat → Nat} {k : Nat} (h : OnceL l) (hk : k < l.length) (hj : isJ (atI l k) = true) (ps : List (Int × Int)) : lastN (ps ++ labK l W l.length) (atI l k).arg 0 = (posN W (tgtN l k) : Int) := by
  rw [atI_get hk] at hj
  obtain ⟨y, hy, hyl, hya⟩ := h.2 l[k] (List.getElem_mem hk) hj
  obtain ⟨t, ht, e⟩ := List.getElem_of_mem hy
  have hst : stndGo (l[k]).arg l 0 = t := stnd_hit ht (fun j hj' hjt hh => by
    have := h.1 j t hj' ht hh.1 (by rw [e]; exact hyl) (by rw [hh.2, e, hya])
    omega) ⟨by rw [e]; exact hyl, by rw [e]; exact hya⟩
  have htg : tgtN l k = t := by unfold tgtN; rw [atI_get hk, hst]; rfl
  rw [htg, lastN_app, atI_get hk]
  rw [labK_last (t := t) (a := (l[k]).arg) ⟨by rw [atI_get ht, e]; exact hyl, by rw [atI_get ht, e]; exact hya⟩ (fun i hi ha hil => by
    rw [atI_get hil] at hi ha
    exact h.1 i t hil ht hi (by rw [e]; exact hyl) (by rw [ha, e, hya])) l.length _ (Nat.le_refl _), if_pos ht]
/-- The sizes as they stand. -/
def encN (x : IN) : Nat := (encI x).length
def WS (l : List IN) (S : Nat → Nat) : Nat → Nat := widN encN (atI l) S
theorem WS_three {l : List IN} {S : Nat → Nat} (hS : ∀ i, S i ≤ 2) (i : Nat) : WS l S i ≤ 3 := by
  have := WI_three (l := l) hS i
  exact this
def swK (l : List IN) (S : Nat → Nat) (k : Nat) : Nat → Nat := sweepN encN (atI l) (tgtN l) k S
theorem swK_two {l : List IN} {S : Nat → Nat} (h : Tight encN (atI l) (tgtN l) S) (k : Nat) : ∀ i, swK l S k i ≤ 2 := fun i => tight_two _ _ _ (sweepN_tight _ _ _ h k) i
theorem swK_no {l : List IN} {S : Nat → Nat} {k : Nat} (h : ¬ (isJ (atI l k) = true ∧ swK l S k k < wantN encN (atI l) (tgtN l) (swK l S k) k)) : swK l S (k + 1) = swK l S k := by
  show growK encN (atI l) (tgtN l) (swK l S k) k = _
  unfold growK; rw [if_neg h]
theorem swK_yes {l : List IN} {S : Nat → Nat} {k : Nat} (h : isJ (atI l k) = true ∧ swK l S k k < wantN encN (atI l) (tgtN l) (swK l S k) k) : swK l S (k + 1) = fun i => if i = k then wantN encN (atI l) (tgtN l) (swK l S k) k else swK l S k i := by
  show growK encN (atI l) (tgtN l) (swK l S k) k = _
  unfold growK; rw [if_pos h]
theorem WS_grow {l : List IN} {S : Nat → Nat} {k m : Nat} (hj : isJ (atI l k) = true) : (fun i => if i = k then 1 + m else WS l S i) = WS l (fun i => if i = k then m else S i) := by
  funext i
  unfold WS widN
  by_cases e : i = k
  · subst e; simp [hj]
  · simp [e]
theorem swK_ne {l : List IN} {S : Nat → Nat} {k : Nat} (h : swK l S k ≠ S) : swK l S (k + 1) ≠ S := fun e => h (funext fun i => by
  have h1 := sweepN_up encN (atI l) (tgtN l) S k i
  have h2 : swK l S k i ≤ swK l S (k + 1) i := growK_up _ _ _ _ k i
  rw [e] at h2
  exact Nat.le_antisymm h2 h1)
theorem swK_grew {l : List IN} {S : Nat → Nat} {k : Nat} (h : isJ (atI l k) = true ∧ swK l S k k < wantN encN (atI l) (tgtN l) (swK l S k) k) : swK l S (k + 1) ≠ S := fun e => by
  have h1 := sweepN_up encN (atI l) (tgtN l) S k k
  have h2 := congrFun (swK_yes h) k
  rw [e] at h2
  simp at h2
  have : S k ≤ swK l S k k := h1
  omega
end Go.Proofs.YtbcpopakdlplgaaDoor
namespace Go.Proofs.YtbcpopakdlplgaaDoor
open Go.RowKit Go.PlainAid Go.Maps
set_option linter.unusedVariables false
set_option linter.unusedSimpArgs false

theorem needC2 (n : Int) (m : Nat) (h : needN n = m) (w : World) : Calls Tryd.prog 52 #[.int .i64 n] w fun e w' => e = .returned (.int .i64 m) ∧ w = w' := by rw [← h]; exact needC n w
/-- What a sweep leaves. -/
def GrowOut (l : List IN) (S S' : Nat → Nat) (b : Bool) : Prop := (b = false → S' = S) ∧ (b = true → S' ≠ S)
set_option maxRecDepth 100000 in
set_option maxHeartbeats 8000000 in
theorem growLC (l : List IN) (w : World) (B gs gz ga gm n c : Nat) (ad : Option Addr) (S : Nat → Nat) (A : Nat → Int) (ps : List (Int × Int)) (nm : Nat) (hY : LayIs w B gs gz ga gm n c ad (WS l S) A ps nm) (hC : CellsI w ad l)
    (hn : l.length = n) (hl : n ≤ 1000) (hO : OnceL l) (hT : Tight encN (atI l) (tgtN l) S) (hnm : nm ≤ 1000000000000000) (hB : B ≤ w.heap.size) (hadB : ∀ b off, ad = some ⟨b, off, none⟩ → 0 < n → b < B) :
    Calls Tryd.prog 29 #[.pointer (some ⟨gs, 0, none⟩)] w fun e w' => ∃ b A' ps', e = .returned (.bool b) ∧ GrowOut l S (swK l S n) b ∧ LayIs w' B gs gz ga gm n c ad (WS l (swK l S n)) A' ps' (nm + n * n) ∧ Below B w w' := by
  have HY := Lib.hid hY
  have HC := Lib.hid hC
  have HN := Lib.hid hn
  have HAB := Lib.hid hadB
  have HO := Lib.hid hO
  have HS2 := Lib.hid (swK_two hT)
  obtain ⟨c0, c1, c2, c3⟩ := hY.cells
  clear hY hC hn hadB hO hT
  go_enter Tryd.func29, Tryd.ntmps29
  go_wp2
  clear c0 c1 c2 c3
  go_loopw [3, 12] (fun m i wr => ∃ (k : Nat) (b : Bool) (A' : Nat → Int) (ps' : List (Int × Int)), i = .int .i64 k ∧ k ≤ n ∧ m = .bool b ∧ B ≤ wr.heap.size ∧ Hid (GrowOut l S (swK l S k) b) ∧ Hid (LayIs wr B gs gz ga gm n c ad (WS l (swK l S k)) A' ps' (nm + k * n)) ∧ Hid (Below B w wr)) (fun _ i _ => n - (intOf i).toNat)
  case atStart => exact ⟨0, false, A, ps, rfl, Nat.zero_le _, rfl, hB, Lib.hid ⟨fun _ => rfl, fun h => by cases h⟩, Lib.hid (by simp; exact HY.out), Lib.hid (Below.refl _ _)⟩
  case round =>
    obtain ⟨k, gb, A', ps', rfl, hk, rfl, hBz, HG, HL, HB⟩ := hrel
    by_cases hlt : k < n
    · have hkl : k < l.length := by rw [HN.out]; exact hlt
      have HCr := Lib.hid (HC.out.belowB HB.out (fun b off e h => HAB.out b off e (by rw [← HN.out]; exact h)) hBz)
      obtain ⟨b, off, ha, hblt, hw, hx0, hx1⟩ := HCr.out k hkl
      have hat : atI l k = l[k] := atI_get hkl
      subst ha
      have hk0 : (0 : Int) ≤ (k : Int) := by omega
      have hk1 : (k : Int) < (n : Int) := by omega
      have HNo := Lib.hid (swK_no (l := l) (S := S) (k := k))
      have HYes := Lib.hid (swK_yes (l := l) (S := S) (k := k))
      have HGr := Lib.hid (swK_grew (l := l) (S := S) (k := k))
      have HNe := Lib.hid (swK_ne (l := l) (S := S) (k := k))
      have HTG := Lib.hid (fun h p => lab_target (W := WS l (swK l S k)) HO.out hkl h p)
      have hS2 := HS2.out k
      have HWG := Lib.hid (fun m h => WS_grow (l := l) (S := swK l S k) (k := k) (m := m) h)
      have hmul : (k + 1) * n = k * n + n := Nat.succ_mul k n
      have hmb : k * n ≤ 1000 * 1000 := Nat.mul_le_mul (by omega) hl
      have HML := Lib.hid hmul
      clear hmul
      obtain ⟨SK, hSK⟩ : ∃ SK, swK l S k = SK := ⟨_, rfl⟩
      rw [hSK] at HNo HYes HGr HNe HTG HG HL hS2 HWG
      clear hSK
      rw [hat] at HNo HYes HGr HTG HWG
      have hatx : atI l k = l[k] := hat
      obtain ⟨x, hx⟩ : ∃ x, l[k] = x := ⟨_, rfl⟩
      rw [hx] at hw hx0 hx1 HNo HYes HGr HTG HWG hatx
      have HAT := Lib.hid hatx
      clear hat hx hatx
      cases hj : isJ x with
      | false =>
        have HA := Lib.hid (fun w => asksC2 x false hj w)
        have hsw := HNo.out (fun h => by rw [hj] at h; cases h.1)
        have HSW := Lib.hid hsw
        clear hj hsw
        go_wp2_with (go_at_call 23; refine (HA.out _).mono ?_; rintro e w1 ⟨rfl, hb1⟩; have HB1 := Lib.hid (bl_thenA (bl_one wr (.cells #[.int .i64 x.op, .int .i64 x.arg] 37)) hb1); clear hb1)
        go_roundw
        case rel => exact ⟨k + 1, gb, A', ps', by go_num, by omega, rfl, Nat.le_trans hBz HB1.out.size, Lib.hid (by rw [HSW.out]; exact HG.out), Lib.hid (by rw [HSW.out, HML.out]; exact (HL.out.below HB1.out).mono (by omega)), Lib.hid (HB.out.trans (HB1.out.mono hBz))⟩
        case measure => simp [intOf]; omega
      | true =>
        have HA := Lib.hid (fun w => asksC2 x true hj w)
        have hjA : isJ (atI l k) = true := by rw [HAT.out]; exact hj
        have HT := Lib.hid (HTG.out hj)
        have HWG2 := Lib.hid (fun m => HWG.out m hj)
        rw [HN.out] at HT
        have hw3 := WS_three (l := l) hS2
        have hp3 := posN_three hw3
        have hq1 := hp3 (tgtN l k)
        have hq2 := hp3 (k + 1)
        have htl : tgtN l k ≤ n := by
          have := stnd_le x.arg l 0
          unfold tgtN; rw [HAT.out]; rw [HN.out] at this; omega
        obtain ⟨V, hV⟩ : ∃ V, posN (WS l SK) (tgtN l k) = V := ⟨_, rfl⟩
        obtain ⟨Z, hZ⟩ : ∃ Z, posN (WS l SK) (k + 1) = Z := ⟨_, rfl⟩
        obtain ⟨M, hM⟩ : ∃ M, needN ((V : Int) - (Z : Int)) = M := ⟨_, rfl⟩
        have hwant : wantN encN (atI l) (tgtN l) SK k = M := by
          show needN (farN (WS l SK) (tgtN l) k) = M
          unfold farN; rw [hV, hZ, hM]
        rw [hwant] at HYes HNo HGr
        have hM2 : M ≤ 2 := by rw [← hM]; exact needN_le _
        rw [hV] at HT hq1
        rw [hZ] at hq2
        have HND := Lib.hid (fun w => needC2 ((V : Int) - (Z : Int)) M hM w)
        have HPL := Lib.hid (fun (w' : World) (h : LayIs w' B gs gz ga gm n c (some ⟨b, off, none⟩) (WS l SK) A' ps' (nm + k * n)) (h2 : CellsI w' (some ⟨b, off, none⟩) l) (h3 : B ≤ w'.heap.size) => placeC l w' B gs gz ga gm n c _ (WS l SK) A' ps' (nm + k * n) h h2 HN.out (by omega) hw3 (by omega) h3 HAB.out)
        have HFR := Lib.hid (fun (w' : World) (h : LayIs w' B gs gz ga gm n c (some ⟨b, off, none⟩) (WS l SK) (fun i => (posN (WS l SK) i : Int)) (ps' ++ labK l (WS l SK) n) (nm + k * n + n)) (h2 : CellsI w' (some ⟨b, off, none⟩) l) => farC l k w' B gs gz ga gm n c _ (WS l SK) _ _ _ (V : Int) (Z : Int) h h2 HN.out (by omega) hlt (by rw [HAT.out]; exact HT.out ps') (by omega) (by rw [hZ]) (by omega))
        have hWk : WS l SK k = 1 + SK k := by unfold WS widN; rw [if_pos hjA]
        have HWK := Lib.hid hWk
        have hsk := hS2 k
        clear hw3 hp3 hV hZ hM hwant hWk
        obtain ⟨X, hX⟩ : ∃ X, WS l SK k = X := ⟨_, rfl⟩
        rw [hX] at HWK
        have hXs := HWK.out
        by_cases hgr : SK k < M
        · have hsw := HYes.out ⟨hj, hgr⟩
          have hne := HGr.out ⟨hj, hgr⟩
          have HSW := Lib.hid hsw
          have HNE := Lib.hid hne
          have hgx : (X : Int) < 1 + (M : Int) := by omega
          clear hj hjA hsw hne hgr
          go_wp2_with (first | (go_at_call 23; refine (HA.out _).mono ?_; rintro e w1 ⟨rfl, hb1⟩; have HB1 := Lib.hid (bl_thenA (bl_one wr (.cells #[.int .i64 x.op, .int .i64 x.arg] 37)) hb1); have hzz1 := Nat.le_trans hBz HB1.out.size; clear hb1) | (go_at_call 30; refine (HPL.out _ (HL.out.below HB1.out) (HCr.out.below HB1.out) hzz1).mono ?_; rintro e w2 ⟨rfl, hl2, hb2⟩; have HL2 := Lib.hid hl2; have HBB := Lib.hid ((HB.out.trans (HB1.out.mono hBz)).trans hb2); have hzz2 := Nat.le_trans hzz1 hb2.size; have HC2 := Lib.hid (HC.out.belowB HBB.out (fun b off e h => HAB.out b off e (by rw [← HN.out]; exact h)) hzz2); clear hl2 hb2) | (go_at_call 31; refine (HFR.out _ HL2.out HC2.out).mono ?_; rintro e w' ⟨rfl, q, rfl⟩; have hl3 := HL2.out.drewN q; obtain ⟨d0, d1, d2, d3⟩ := hl3.cells; have d4 := hl3.sz.cell k; rw [rowF_at hlt] at d4; rw [hX] at d4; have d5 := hl3.sz.fr k; have HL3 := Lib.hid hl3; have HB3 := Lib.hid (bl_drewN HBB.out q); clear hl3) | (go_at_call 52; refine (HND.out _).mono ?_; rintro e w' ⟨rfl, rfl⟩))
          have HL4 := HL3.out.setZ k (1 + M)
          rw [HWG2.out M, ← HSW.out, show (((1 + M : Nat)) : Int) = 1 + (M : Int) from by omega] at HL4
          go_roundw
          case rel => exact ⟨k + 1, true, _, _, by go_num, by omega, rfl, by simp [World.setCell]; omega, Lib.hid ⟨fun h => (by cases h), fun _ => HNE.out⟩, Lib.hid (by rw [HML.out, ← Nat.add_assoc]; exact HL4), Lib.hid (HB3.out.setCell HL3.out.b2 _)⟩
          case measure => simp [intOf]; omega
        · have hsw := HNo.out (fun h => hgr h.2)
          have HSW := Lib.hid hsw
          have hgx : 1 + (M : Int) ≤ (X : Int) := by omega
          clear hj hjA hsw hgr
          go_wp2_with (first | (go_at_call 23; refine (HA.out _).mono ?_; rintro e w1 ⟨rfl, hb1⟩; have HB1 := Lib.hid (bl_thenA (bl_one wr (.cells #[.int .i64 x.op, .int .i64 x.arg] 37)) hb1); have hzz1 := Nat.le_trans hBz HB1.out.size; clear hb1) | (go_at_call 30; refine (HPL.out _ (HL.out.below HB1.out) (HCr.out.below HB1.out) hzz1).mono ?_; rintro e w2 ⟨rfl, hl2, hb2⟩; have HL2 := Lib.hid hl2; have HBB := Lib.hid ((HB.out.trans (HB1.out.mono hBz)).trans hb2); have hzz2 := Nat.le_trans hzz1 hb2.size; have HC2 := Lib.hid (HC.out.belowB HBB.out (fun b off e h => HAB.out b off e (by rw [← HN.out]; exact h)) hzz2); clear hl2 hb2) | (go_at_call 31; refine (HFR.out _ HL2.out HC2.out).mono ?_; rintro e w' ⟨rfl, q, rfl⟩; have hl3 := HL2.out.drewN q; obtain ⟨d0, d1, d2, d3⟩ := hl3.cells; have d4 := hl3.sz.cell k; rw [rowF_at hlt] at d4; rw [hX] at d4; have d5 := hl3.sz.fr k; have HL3 := Lib.hid hl3; have HB3 := Lib.hid (bl_drewN HBB.out q); clear hl3) | (go_at_call 52; refine (HND.out _).mono ?_; rintro e w' ⟨rfl, rfl⟩))
          go_roundw
          case rel => exact ⟨k + 1, gb, _, _, by go_num, by omega, rfl, by simp; omega, Lib.hid (by rw [HSW.out]; exact HG.out), Lib.hid (by rw [HSW.out, HML.out, ← Nat.add_assoc]; exact HL3.out), HB3⟩
          case measure => simp [intOf]; omega
    · have hkn : k = n := by omega
      subst hkn
      go_wp2
      go_ret
      exact ⟨_, _, _, rfl, HG.out, HL.out, HB.out⟩
end Go.Proofs.YtbcpopakdlplgaaDoor
