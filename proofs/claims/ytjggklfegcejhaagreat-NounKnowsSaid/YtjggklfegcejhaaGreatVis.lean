/- Contracts of view.Carried, Visible, Sees. -/
import Derived.Test.YtjggklfegcejhaaGreatLit
import Derived.Test.YtjggklfegcejhaaGreatTwo
import Derived.Test.YtjggklfegcejhaaGreatTail
import Derived.Test.YtjggklfegcejhaaGreatShelf
import Derived.Test.YtjggklfegcejhaaGreatRef21
import Derived.Lib.OwnBridge
namespace Go.Proofs.YtjggklfegcejhaaGreat
open Go.RowKit Go.PlainAid Go.Shelf
set_option linter.unusedVariables false
set_option linter.unusedSimpArgs false

/-- The function handed over: is it the player? -/
theorem vis1 (v : Int) (W : World) : FnGives Tryz.prog 108 #[] #[.int .i64 v] (.bool (v == 1)) W := by
  show Calls Tryz.prog 108 #[.int .i64 v] W _
  go_enter Tryz.func108, Tryz.ntmps108
  go_wp2
  go_ret
  exact ⟨rfl, 0, rfl⟩
theorem deleteC (B : Nat) (v : Value) (L : List Int) (w : World) (h : OwnInts B w v L) (hn : 0 < L.length) (hm : L.length ≤ 1000000) :
    Calls Tryz.prog 107 #[v, .func (.func 108) #[] #[]] w fun e w' => ∃ v', e = .returned v' ∧ w'.ownsRow B 3 1 v' (L.filter fun x => !(x == 1)).length ((L.filter fun x => !(x == 1)).map (Value.int .i64)) ∧ Below B w w' := by
  have hne : v ≠ .slice none 0 0 := by
    intro e; subst e
    obtain ⟨a, c, h2⟩ := h.shape
    simp only [Value.slice.injEq] at h2
    omega
  obtain ⟨g, cap, rfl, hbg, hgl, hnc, hcm, _, hH⟩ := Lib.holds_of_ownsRow (zs := L) h.1 hne
  have hd := AnyE.slices_DeleteFunc Tryz.delInts (Value.int .i64) (fun _ => rfl) (fun x => x == 1) 108 #[] (enters_of Tryz.func108 (by kernel_rfl) rfl) 0 Tryz.zeroValue3 g 0 cap L.toArray w
    (fun W x _ => vis1 x W) (fun n os dk x _ => vis1 x _) hH (by simp; omega) (by simpa using hnc)
  have hk : (L.filter fun x => !(x == 1)).length ≤ L.length := List.length_filter_le _ _
  rw [List.size_toArray] at hd
  refine Calls.mono hd ?_
  rintro e w' ⟨rfl, q, rfl⟩
  refine ⟨_, rfl, ?_, Lib.below_putRow (Below.refl _ _) hbg⟩
  have := Lib.ownsRow_putRow (q := q) (k := (L.filter fun x => !(x == 1)).length) (ys := (L.filter fun x => !(x == 1)) ++ List.replicate (L.length - (L.filter fun x => !(x == 1)).length) 0) h.1 (by simp; omega) hk
  simpa using this
set_option maxRecDepth 100000 in
/-- slices.Collect over what is reached. -/
theorem collectReach (q : Wv) (d : WdC) (x : Int) (n B : Nat) (w : World) (hW : WOk w q d n) (hB : BK w B (worldC q) 31) (hX : BK w (B + 1) [.int .i64 x] 3) (hL : (reachV d n x).length ≤ 1000000) :
    Calls Tryz.prog 104 #[.func (.func 126) #[] #[.pointer (some ⟨B, 0, none⟩), .pointer (some ⟨B + 1, 0, none⟩)]] w (RetInts w (reachV d n x)) := by
  have hb := bl_a (Below.refl w.heap.size w) (.cells #[.slice none 0 0] 23)
  have hbx := Boxed.new w 23 (.slice none 0 0)
  have hs := reachSeq q d x n B w.heap.size w.heap.size (w.alloc (.cells #[.slice none 0 0] 23)) (hW.below hb) (hB.below hb) (hX.below hb) hW.is.lowL hb.size ⟨by rw [World.size_alloc]; omega, fun g hg => by
    rw [boxed_ptr hbx] at hg; cases hg⟩
  refine (collectC _ _ (enters_of Tryz.func126 (by kernel_rfl) rfl) w.heap.size w (reachV d n x) (Nat.le_refl _) hL hs).mono ?_
  rintro e w' ⟨v, he, h3, h4, h5⟩
  exact ⟨v, he, ⟨h3, h4⟩, h5⟩
/-- What can be seen. -/
def visN (d : WdC) (n : Nat) : List Int := if litB d n = true then (reachV d n (topOf d.pa n 1)).filter (fun x => !(x == 1)) else reachV d n 1
def seesN (d : WdC) (n : Nat) (y : Int) : Bool := y == 1 || y == topOf d.pa n 1 || (visN d n).contains y
theorem deleteNil (w : World) : Calls Tryz.prog 107 #[.slice none 0 0, .func (.func 108) #[] #[]] w fun e w' => e = .returned (.slice none 0 0) ∧ w = w' := by
  have HI : Hid (∀ w, Calls Tryz.prog 129 #[.slice none 0 0, .func (.func 108) #[] #[]] w fun e w' => e = .returned (.int .i64 (-1)) ∧ w' = w) := Lib.hid (fun w => AnyE.slices_IndexFunc_empty (P := Tryz.prog) (ρ := Tryz.delInts_ren) { Tryz.delInts with } none 0 (.func (.func 108) #[] #[]) w)
  go_enter Tryz.func107, Tryz.ntmps107
  go_wp2_with fail
  refine (HI.out _).mono ?_
  rintro e w1 ⟨rfl, rfl⟩
  go_wp2_with fail
  go_ret
  exact ⟨rfl, rfl⟩
theorem ints_of {B : Nat} {w : World} {v : Value} {l : List Int} (h : w.ownsRow B 3 1 v l.length (l.map (Value.int .i64))) (hm : l.length ≤ maxLen) : Ints w v l := by
  obtain ⟨a, c, rfl⟩ := ow_shape h
  refine ⟨a, c, rfl, hm, fun hn => ?_⟩
  obtain ⟨g, cap, e, hg, hlt⟩ := h.form hn
  simp only [Value.slice.injEq] at e
  obtain ⟨rfl, _, _⟩ := e
  exact ⟨g, 0, rfl, hlt, fun i hi => by rw [Nat.zero_add, h.cellAt i (by omega)]; simp [hi]⟩
set_option maxRecDepth 100000 in
theorem carriedC (x : TAd) (t : TbC) (q : Wv) (d : WdC) (n : Nat) (w : World) (hW : WOk w q d n) (hL : (reachV d n 1).length ≤ 1000000) :
    Calls Tryz.prog 69 #[tabV x t, worldV q] w (RetInts w (reachV d n 1)) := by
  have hnew := Two.new x t q w
  obtain ⟨W0, hW0⟩ : ∃ W0, (w.alloc (.cells (tabC x t).toArray 28)).alloc (.cells (worldC q).toArray 31) = W0 := ⟨_, rfl⟩
  rw [hW0] at hnew
  have HMK := Lib.hid (fun c w' => mkReached q c w')
  have HCO := Lib.hid (fun B w' (hb : Below w.heap.size w w') hB hX => collectReach q d 1 n B w' (hW.below hb) hB hX hL)
  generalize reachV d n 1 = L at *
  clear hW hL
  have HTW := Lib.hid (hnew)
  have HTWt := Lib.hid HTW.out.bt
  have HTWw := Lib.hid HTW.out.bw
  obtain ⟨kt0, kt1, kt2, kt3, kt4, kt5, kt6, kt7, kt8, kt9, kt10, kt11, kt12, kt13, kt14⟩ := tab15 (HTWt.out)
  obtain ⟨b0, b1, b2, b3, b4, b5, b6, b7, b8, b9, bA, bB, bC⟩ := wd13 (HTWw.out)
  clear hnew
  unfold tabV worldV at *
  go_enter Tryz.func69, Tryz.ntmps69
  unfold worldC at HMK hW0 ⊢
  unfold tabC at hW0 ⊢
  go_wp2_with fail
  clear hW0
  refine (HMK.out _ _).mono ?_
  rintro e w4 ⟨rfl, hb4, k1, k2⟩
  have HB4 := Lib.hid (bl_then HTW.out.bl hb4)
  have HK1 := Lib.hid k1
  have HK2 := Lib.hid k2
  clear hb4 k1 k2
  clear kt0 kt1 kt2 kt3 kt4 kt5 kt6 kt7 kt8 kt9 kt10 kt11 kt12 kt13 kt14
  clear b0 b1 b2 b3 b4 b5 b6 b7 b8 b9 bA bB bC
  clear HTWt HTWw
  go_wp2_with fail
  refine (HCO.out _ _ HB4.out HK1.out HK2.out).mono ?_
  rintro e w5 ⟨v, rfl, ho, hb5⟩
  obtain ⟨a, c, rfl⟩ := ho.shape
  have HO := Lib.hid (ho.base HB4.out.size)
  have HB5 := Lib.hid (bl_then HB4.out hb5)
  clear ho hb5
  go_wp2_with fail
  go_ret
  exact ⟨_, rfl, HO.out, HB5.out⟩
/-- It returns a list that reads as that. -/
def RetRead (w : World) (l : List Int) (e : Ending) (w' : World) : Prop := ∃ a c, e = .returned (.slice a l.length c) ∧ Ints w' (.slice a l.length c) l ∧ Below w.heap.size w w'
set_option maxRecDepth 100000 in
set_option maxHeartbeats 8000000 in
theorem visC (x : TAd) (t : TbC) (q : Wv) (d : WdC) (n : Nat) (w : World) (hW : WOk w q d n) (hL : ∀ y, (reachV d n y).length ≤ 1000000) :
    Calls Tryz.prog 70 #[tabV x t, worldV q] w (RetRead w (visN d n)) := by
  have hnew := Two.new x t q w
  obtain ⟨W0, hW0⟩ : ∃ W0, (w.alloc (.cells (tabC x t).toArray 28)).alloc (.cells (worldC q).toArray 31) = W0 := ⟨_, rfl⟩
  rw [hW0] at hnew
  have HLIT := Lib.hid (fun w' (hb : Below w.heap.size w w') => litC x t q d n w' (hW.below hb))
  have HHERE := Lib.hid (fun w' (hb : Below w.heap.size w w') => hereC q d n w' (hW.below hb))
  have HMK := Lib.hid (fun c w' => mkReached q c w')
  have HCO := Lib.hid (fun B w' (hb : Below w.heap.size w w') hB hX => collectReach q d (topOf d.pa n 1) n B w' (hW.below hb) hB hX (hL _))
  have HCA := Lib.hid (fun w' (hb : Below w.heap.size w w') => carriedC x t q d n w' (hW.below hb) (hL 1))
  have hL1 := hL 1
  have hL2 := hL (topOf d.pa n 1)
  obtain ⟨R, hR⟩ : ∃ R, visN d n = R := ⟨_, rfl⟩
  have hR1 : litB d n = true → (reachV d n (topOf d.pa n 1)).filter (fun x => !(x == 1)) = R := fun h => by rw [← hR]; unfold visN; rw [if_pos h]
  have hR2 : litB d n = false → reachV d n 1 = R := fun h => by rw [← hR]; unfold visN; rw [h]; rfl
  rw [hR]
  clear hR
  generalize litB d n = lit at *
  generalize topOf d.pa n 1 = room at *
  generalize reachV d n 1 = L1 at *
  generalize reachV d n room = L at *
  have HDE := Lib.hid (fun v w' (h : OwnInts w.heap.size w' v L) h0 => deleteC w.heap.size v L w' h h0 hL2)
  have HDN := Lib.hid (fun w' => deleteNil w')
  have hfl : (L.filter fun x => !(x == 1)).length ≤ 1000000 := Nat.le_trans (List.length_filter_le _ _) hL2
  have HF0 : Hid (L = [] → (L.filter fun x => !(x == 1)) = []) := Lib.hid (fun h => by rw [h]; rfl)
  generalize (L.filter fun x => !(x == 1)) = L2 at *
  have HM := Lib.hid (And.intro hL1 hfl)
  have HR1 := Lib.hid hR1
  have HR2 := Lib.hid hR2
  clear hW hL hL1 hL2 hfl hR1 hR2
  have HTW := Lib.hid (hnew)
  have HTWt := Lib.hid HTW.out.bt
  have HTWw := Lib.hid HTW.out.bw
  obtain ⟨kt0, kt1, kt2, kt3, kt4, kt5, kt6, kt7, kt8, kt9, kt10, kt11, kt12, kt13, kt14⟩ := tab15 (HTWt.out)
  obtain ⟨b0, b1, b2, b3, b4, b5, b6, b7, b8, b9, bA, bB, bC⟩ := wd13 (HTWw.out)
  clear hnew
  unfold tabV worldV at *
  go_enter Tryz.func70, Tryz.ntmps70
  unfold worldC at HLIT HHERE HMK HCA hW0 ⊢
  unfold tabC at HLIT HCA hW0 ⊢
  go_wp2_with fail
  clear hW0
  refine (HLIT.out _ HTW.out.bl).mono ?_
  rintro e w1 ⟨rfl, hb1⟩
  have hnew := HTW.out.below hb1
  clear kt0 kt1 kt2 kt3 kt4 kt5 kt6 kt7 kt8 kt9 kt10 kt11 kt12 kt13 kt14
  clear b0 b1 b2 b3 b4 b5 b6 b7 b8 b9 bA bB bC
  clear HTWt HTWw
  clear HTW
  have HTW := Lib.hid (hnew)
  have HTWt := Lib.hid HTW.out.bt
  have HTWw := Lib.hid HTW.out.bw
  obtain ⟨kt0, kt1, kt2, kt3, kt4, kt5, kt6, kt7, kt8, kt9, kt10, kt11, kt12, kt13, kt14⟩ := tab15 (HTWt.out)
  obtain ⟨b0, b1, b2, b3, b4, b5, b6, b7, b8, b9, bA, bB, bC⟩ := wd13 (HTWw.out)
  clear hnew
  clear hb1
  cases lit with
  | false =>
    go_wp2_with fail
    refine (HCA.out _ HTW.out.bl).mono ?_
    rintro e w2 ⟨v, rfl, ho, hb2⟩
    have HB2 := Lib.hid (bl_then HTW.out.bl hb2)
    have HO := Lib.hid (ho.ints (by have := HM.out.1; unfold maxLen; omega))
    have hre := HR2.out (by trivial)
    subst hre
    obtain ⟨a, c, rfl⟩ := ho.shape
    clear ho hb2
    clear kt0 kt1 kt2 kt3 kt4 kt5 kt6 kt7 kt8 kt9 kt10 kt11 kt12 kt13 kt14
    clear b0 b1 b2 b3 b4 b5 b6 b7 b8 b9 bA bB bC
    clear HTWt HTWw
    go_wp2_with fail
    go_ret
    exact ⟨a, c, rfl, HO.out, HB2.out⟩
  | true =>
    have hlt0 : w.heap.size < w1.heap.size := HTW.out.bt.lt
    have hlt1 : w.heap.size + 1 < w1.heap.size := HTW.out.bw.lt
    go_wp2_with fail
    refine region_tail 3 (fun w' => Below w1.heap.size w1 w') (by kernel_rfl) (by kernel_rfl) ((Below.refl _ _).drew) (fun KK hKK => ?_)
    intro OPS
    simp only [List.append, List.take]
    repeat (first
      | (refine' inText_val ?_ ?_ ?_ ?_
         rotate_left 2
         · rfl
         · (intro w' hS; obtain ⟨hcc, hff⟩ := bcell hS; go_simp; first | with_reducible rfl | skip)
         · (simp only [Act.put, List.setIfInBounds_toArray, List.set_cons_zero, List.set_cons_succ]; with_reducible rfl))
      | (refine' inText_call ?_ ?_ ?_ ?_ ?_
         rotate_left 4
         · rfl
         · (intro w' hS; obtain ⟨hcc, hff⟩ := bcell hS; go_simp; exact ⟨rfl, rfl⟩)
         · (intro w' hS
            ((with_reducible refine (HHERE.out w' (bl_then HTW.out.bl hS)).mono ?_); exact fun e w'' h => ⟨h.1, bl_then hS h.2⟩))
         · (simp only [Act.put, List.setIfInBounds_toArray, List.set_cons_zero, List.set_cons_succ]; with_reducible rfl)))
    refine inText_nil (hKK.out _ (fun w3 hS => ?_))
    simp only [List.drop]
    clear hKK
    have HB3 := Lib.hid (bl_then HTW.out.bl hS)
    clear hS
    clear kt0 kt1 kt2 kt3 kt4 kt5 kt6 kt7 kt8 kt9 kt10 kt11 kt12 kt13 kt14
    clear b0 b1 b2 b3 b4 b5 b6 b7 b8 b9 bA bB bC
    clear HTWt HTWw
    go_wp2_with fail
    refine (HMK.out _ _).mono ?_
    rintro e w4 ⟨rfl, hb4, k1, k2⟩
    have HB4 := Lib.hid (bl_then HB3.out hb4)
    have HK1 := Lib.hid k1
    have HK2 := Lib.hid k2
    clear hb4 k1 k2
    go_wp2_with fail
    refine (HCO.out _ _ HB4.out HK1.out HK2.out).mono ?_
    rintro e w5 ⟨v, rfl, ho, hb5⟩
    have HB5 := Lib.hid (bl_then HB4.out hb5)
    by_cases h0 : 0 < L.length
    · obtain ⟨a, c, rfl⟩ := ho.shape
      have HO := Lib.hid (ho.base HB4.out.size)
      clear ho hb5
      go_wp2_with fail
      refine (HDE.out _ _ HO.out h0).mono ?_
      rintro e w6 ⟨v6, rfl, ho6, hb6⟩
      have HO6 := Lib.hid (ints_of ho6 (by have := HM.out.2; unfold maxLen; omega))
      obtain ⟨a6, c6, rfl⟩ := ow_shape ho6
      have HB6 := Lib.hid (HB5.out.trans hb6)
      have HRE := Lib.hid (HR1.out (by trivial))
      clear ho6 hb6
      go_wp2
      go_ret
      exact ⟨a6, c6, by rw [← HRE.out]; rfl, by rw [← HRE.out]; exact HO6.out, HB6.out⟩
    · have hl0 : L = [] := List.length_eq_zero_iff.1 (by omega)
      have hv := ho.2 hl0
      subst hv
      have HRE : Hid (R = []) := Lib.hid ((HR1.out (by trivial)).symm.trans (HF0.out hl0))
      clear ho hb5 h0 hl0
      go_wp2_with fail
      refine (HDN.out _).mono ?_
      rintro e w6 ⟨rfl, rfl⟩
      go_wp2
      go_ret
      exact ⟨none, 0, by rw [HRE.out]; rfl, by rw [HRE.out]; exact ⟨none, 0, rfl, Nat.zero_le _, fun h => absurd h (by simp)⟩, HB5.out⟩
set_option maxRecDepth 100000 in
set_option maxHeartbeats 8000000 in
theorem seesG (x : TAd) (t : TbC) (q : Wv) (d : WdC) (n : Nat) (y : Int) (w : World) (hW : WOk w q d n) (hL : ∀ y, (reachV d n y).length ≤ 1000000) :
    Calls Tryz.prog 59 #[tabV x t, worldV q, .int .i64 y] w fun e w' => e = .returned (.bool (seesN d n y)) ∧ Below w.heap.size w w' := by
  have hnew := Two.new x t q w
  obtain ⟨W0, hW0⟩ : ∃ W0, (w.alloc (.cells (tabC x t).toArray 28)).alloc (.cells (worldC q).toArray 31) = W0 := ⟨_, rfl⟩
  rw [hW0] at hnew
  have HHERE := Lib.hid (fun w' (hb : Below w.heap.size w w') => hereC q d n w' (hW.below hb))
  have HV := Lib.hid (fun w' (hb : Below w.heap.size w w') => visC x t q d n w' (hW.below hb) hL)
  unfold seesN
  generalize visN d n = L2 at *
  generalize topOf d.pa n 1 = room at *
  have HCT : Hid (∀ (w' : World) (a : Option Addr) (c : Nat), Ints w' (.slice a L2.length c) L2 →
      Calls Tryz.prog 98 #[.slice a L2.length c, .int .i64 y] w' fun e w'' => e = .returned (.bool (L2.contains y)) ∧ w'' = w') := Lib.hid (fun w' a c ho => by
    obtain ⟨a', c', he, hm, h1⟩ := ho
    simp only [Value.slice.injEq, true_and] at he
    obtain ⟨rfl, rfl⟩ := he
    by_cases hp : 0 < L2.length
    · obtain ⟨b, o, rfl, hb, hcs⟩ := h1 hp
      unfold maxLen at hm
      refine (Tryz.slices_Contains_int b o L2.length c L2 y w' (Nat.le_refl _) (by omega) (fun j hj => ?_)).mono ?_
      · rw [hcs j hj]; simp [hj]
      · rintro e w'' ⟨rfl, rfl⟩
        exact ⟨by rw [List.take_length], rfl⟩
    · have h0 : L2 = [] := List.length_eq_zero_iff.1 (by omega)
      subst h0
      exact Tryz.slices_Contains_int_empty a c y w')
  generalize L2.contains y = r at HCT ⊢
  clear hW hL
  have HTW := Lib.hid (hnew)
  have HTWt := Lib.hid HTW.out.bt
  have HTWw := Lib.hid HTW.out.bw
  obtain ⟨kt0, kt1, kt2, kt3, kt4, kt5, kt6, kt7, kt8, kt9, kt10, kt11, kt12, kt13, kt14⟩ := tab15 (HTWt.out)
  obtain ⟨b0, b1, b2, b3, b4, b5, b6, b7, b8, b9, bA, bB, bC⟩ := wd13 (HTWw.out)
  clear hnew
  unfold tabV worldV at *
  by_cases hy1 : y = 1
  · subst hy1
    go_enter Tryz.func59, Tryz.ntmps59
    unfold worldC at hW0 ⊢
    unfold tabC at hW0 ⊢
    go_wp2_with fail
    go_ret
    exact ⟨rfl, HTW.out.bl⟩
  have hyb : (y == 1) = false := by simp [hy1]
  rw [hyb]
  clear hy1
  by_cases hyr : y = room
  · have hyr2 : (y == room) = true := by simp [hyr]
    rw [hyr2]
    clear hyr
    go_enter Tryz.func59, Tryz.ntmps59
    unfold worldC at HHERE HV hW0 ⊢
    unfold tabC at HV hW0 ⊢
    go_wp2_with fail
    clear hW0
    refine (HHERE.out _ HTW.out.bl).mono ?_
    rintro e w1 ⟨rfl, hb1⟩
    have hnew := HTW.out.below hb1
    clear kt0 kt1 kt2 kt3 kt4 kt5 kt6 kt7 kt8 kt9 kt10 kt11 kt12 kt13 kt14
    clear b0 b1 b2 b3 b4 b5 b6 b7 b8 b9 bA bB bC
    clear HTWt HTWw
    clear HTW
    have HTW := Lib.hid (hnew)
    have HTWt := Lib.hid HTW.out.bt
    have HTWw := Lib.hid HTW.out.bw
    obtain ⟨kt0, kt1, kt2, kt3, kt4, kt5, kt6, kt7, kt8, kt9, kt10, kt11, kt12, kt13, kt14⟩ := tab15 (HTWt.out)
    obtain ⟨b0, b1, b2, b3, b4, b5, b6, b7, b8, b9, bA, bB, bC⟩ := wd13 (HTWw.out)
    clear hnew
    clear hb1
    go_wp2_with fail
    go_ret
    exact ⟨rfl, HTW.out.bl⟩
  · have hyr2 : (y == room) = false := by simp [hyr]
    rw [hyr2]
    clear hyr
    go_enter Tryz.func59, Tryz.ntmps59
    unfold worldC at HHERE HV hW0 ⊢
    unfold tabC at HV hW0 ⊢
    go_wp2_with fail
    clear hW0
    refine (HHERE.out _ HTW.out.bl).mono ?_
    rintro e w1 ⟨rfl, hb1⟩
    have hnew := HTW.out.below hb1
    clear kt0 kt1 kt2 kt3 kt4 kt5 kt6 kt7 kt8 kt9 kt10 kt11 kt12 kt13 kt14
    clear b0 b1 b2 b3 b4 b5 b6 b7 b8 b9 bA bB bC
    clear HTWt HTWw
    clear HTW
    have HTW := Lib.hid (hnew)
    have HTWt := Lib.hid HTW.out.bt
    have HTWw := Lib.hid HTW.out.bw
    obtain ⟨kt0, kt1, kt2, kt3, kt4, kt5, kt6, kt7, kt8, kt9, kt10, kt11, kt12, kt13, kt14⟩ := tab15 (HTWt.out)
    obtain ⟨b0, b1, b2, b3, b4, b5, b6, b7, b8, b9, bA, bB, bC⟩ := wd13 (HTWw.out)
    clear hnew
    clear hb1
    go_wp2_with fail
    refine (HV.out _ HTW.out.bl).mono ?_
    rintro e w2 ⟨a, c, rfl, ho, hb2⟩
    have HO := Lib.hid ho
    have hnew := HTW.out.below hb2
    clear kt0 kt1 kt2 kt3 kt4 kt5 kt6 kt7 kt8 kt9 kt10 kt11 kt12 kt13 kt14
    clear b0 b1 b2 b3 b4 b5 b6 b7 b8 b9 bA bB bC
    clear HTWt HTWw
    clear HTW
    have HTW := Lib.hid (hnew)
    have HTWt := Lib.hid HTW.out.bt
    have HTWw := Lib.hid HTW.out.bw
    obtain ⟨kt0, kt1, kt2, kt3, kt4, kt5, kt6, kt7, kt8, kt9, kt10, kt11, kt12, kt13, kt14⟩ := tab15 (HTWt.out)
    obtain ⟨b0, b1, b2, b3, b4, b5, b6, b7, b8, b9, bA, bB, bC⟩ := wd13 (HTWw.out)
    clear hnew
    clear ho hb2
    go_wp2_with fail
    refine (HCT.out _ _ _ HO.out).mono ?_
    rintro e w3 ⟨rfl, rfl⟩
    go_wp2_with fail
    go_ret
    exact ⟨rfl, HTW.out.bl⟩
end Go.Proofs.YtjggklfegcejhaaGreat
