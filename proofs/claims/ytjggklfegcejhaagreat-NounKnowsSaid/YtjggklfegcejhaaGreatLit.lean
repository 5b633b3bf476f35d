/- view.reached, Here, Lit, Carried. -/
import Derived.Test.YtjggklfegcejhaaGreatView
import Derived.Test.YtjggklfegcejhaaGreatTop
import Derived.Test.YtjggklfegcejhaaGreatFitsA
namespace Go.Proofs.YtjggklfegcejhaaGreat
open Go.RowKit Go.Shelf
set_option linter.unusedVariables false
set_option linter.unusedSimpArgs false
attribute [local go_sem] Oper.semAt_some

/-- What is reached from a thing. -/
def reachV (d : WdC) (n : Nat) (x : Int) : List Int := reachW (kidsW d.ch d.nx n) (fun c => hasB d.fl n c 3) (showB d.fl n) n x
theorem high_no {ch nx : List Int} {n : Nat} {x : Int} (h : isW n x = false) : ∀ dep, HighW (kidsW ch nx n) dep x
  | 0 => kids_no h
  | dep + 1 => fun c hc => by rw [kids_no h] at hc; cases hc
theorem WOk.high {w : World} {q : Wv} {d : WdC} {n : Nat} (h : WOk w q d n) (x : Int) : HighW (kidsW d.ch d.nx n) (n - 1) x := by
  cases hx : isW n x with
  | false => exact high_no hx _
  | true => exact high_of h.nest h.pos (n - 1) x hx (by have := h.pos; omega)
theorem mkReached (q : Wv) (x : Int) (w : World) :
    Calls Tryz.prog 105 #[worldV q, .int .i64 x] w fun e w' => e = .returned (.func (.func 126) #[] #[.pointer (some ⟨w.heap.size, 0, none⟩), .pointer (some ⟨w.heap.size + 1, 0, none⟩)]) ∧
      Below w.heap.size w w' ∧ BK w' w.heap.size (worldC q) 31 ∧ BK w' (w.heap.size + 1) [.int .i64 x] 3 := by
  have h2 := BK.new (w.alloc (.cells (worldC q).toArray 31)) [.int .i64 x] 3
  rw [World.size_alloc] at h2
  have H : Hid (Below w.heap.size w ((w.alloc (.cells (worldC q).toArray 31)).alloc (.cells [.int .i64 x].toArray 3)) ∧ BK ((w.alloc (.cells (worldC q).toArray 31)).alloc (.cells [.int .i64 x].toArray 3)) w.heap.size (worldC q) 31 ∧ BK ((w.alloc (.cells (worldC q).toArray 31)).alloc (.cells [.int .i64 x].toArray 3)) (w.heap.size + 1) [.int .i64 x] 3) :=
    Lib.hid ⟨bl_a (bl_a (Below.refl _ _) _) _, (BK.new w (worldC q) 31).alloc _, h2⟩
  clear h2
  unfold worldV worldC at *
  go_enter Tryz.func105, Tryz.ntmps105
  go_wp2
  go_ret
  exact ⟨rfl, H.out⟩
set_option maxRecDepth 100000 in
theorem reachSeq (q : Wv) (d : WdC) (x : Int) (n B n0 Bs : Nat) (w : World) (hW : WOk w q d n)
    (hB : BK w B (worldC q) 31) (hX : BK w (B + 1) [.int .i64 x] 3) (hlow : LowL q d n0) (hn0 : n0 ≤ w.heap.size) (hp : PtrOk Bs w) :
    SeqA Tryz.prog 126 #[.pointer (some ⟨B, 0, none⟩), .pointer (some ⟨B + 1, 0, none⟩)] (fun x : Int => #[.int .i64 x]) Makes (KpG n0 Bs) (reachV d n x) w := fun l J Jx W hWW hJ hJx hR h0 => by
  have hn := hW.pos
  have H := walkC q d n l n0 Bs (reachV d n x) J Jx hlow hJ hJx hR (n - 1) x (hW.high x) [] W (hW.below hWW) (Nat.le_trans hn0 hWW.size) (hp.step (Makes.kpB hWW hp.1)) h0
    (by rw [show n - 1 + 1 = n by omega]; exact List.prefix_rfl)
  rw [show n - 1 + 1 = n by omega] at H
  have H := Lib.hid H
  have HB := Lib.hid (hB.below hWW)
  have hx0 := (hX.below hWW).cell 0
  simp only [List.getElem?_cons_zero] at hx0
  clear hn hW hJ hJx hR h0 hlow hp hB hX hWW hn0
  unfold reachV at *
  unfold worldV at H
  generalize reachW (kidsW d.ch d.nx n) (fun c => hasB d.fl n c 3) (showB d.fl n) n x = L at *
  obtain ⟨b0, b1, b2, b3, b4, b5, b6, b7, b8, b9, bA, bB, bC⟩ := wd13 (HB.out)
  refine callsIn_wide.1 (callsIn_of_wp (n := 9) Tryz.func126 rfl trivial ?_ rfl)
  simp only [Tryz.ntmps126, List.size_toArray, List.length_cons, List.length_nil, Nat.reduceAdd, Nat.reduceSub, Array.replicate_succ, Array.replicate_zero, List.push_toArray, List.append_toArray, List.nil_append, List.cons_append]
  unfold worldC at H
  gi_wp2_with fail
  refine ⟨trivial, (callsIn_wide.2 H.out).mono ?_⟩
  rintro e w1 (⟨rfl, hJ1, hk1⟩ | ⟨rfl, p, hp1, hJx1⟩)
  · have HJ1 := Lib.hid hJ1
    clear hJ1 hk1
    clear b0 b1 b2 b3 b4 b5 b6 b7 b8 b9 bA bB bC
    gi_wp2_with fail
    go_end0
    exact ⟨⟨_, rfl⟩, .inl (by simpa using HJ1.out)⟩
  · have HJ1 := Lib.hid hJx1
    have HP := Lib.hid hp1
    clear hJx1 hp1
    clear b0 b1 b2 b3 b4 b5 b6 b7 b8 b9 bA bB bC
    gi_wp2_with fail
    go_end0
    exact ⟨⟨_, rfl⟩, .inr ⟨p, HP.out, HJ1.out⟩⟩
theorem hereC (q : Wv) (d : WdC) (n : Nat) (w : World) (hW : WOk w q d n) :
    Calls Tryz.prog 97 #[worldV q] w fun e w' => e = .returned (.int .i64 (topOf d.pa n 1)) ∧ Below w.heap.size w w' := by
  have H := Lib.hid (topC q d 1 n (w.alloc (.cells (worldC q).toArray 31)) (hW.below (bl_oneA _ _)).is hW.len hW.pos)
  generalize topOf d.pa n 1 = r at *
  clear hW
  unfold worldV worldC at *
  go_enter Tryz.func97, Tryz.ntmps97
  go_wp2_with fail
  refine H.out.mono ?_
  rintro e w1 ⟨rfl, hb1⟩
  have HB1 := Lib.hid ((bl_oneA w _).trans (hb1.mono (bl_oneA w _).size))
  clear hb1
  go_wp2
  go_ret
  exact ⟨rfl, HB1.out⟩
/-- Is there light? -/
def litB (d : WdC) (n : Nat) : Bool := hasB d.fl n (topOf d.pa n 1) 0 || (reachV d n (topOf d.pa n 1)).any (fun x => hasB d.fl n x 0)
/-- What Lit holds between two rounds. -/
def LitI (q : Wv) (w : World) (m : Nat) (p : List Int → Prop) (v : Bool) (pre : List Int) (W : World) : Prop :=
  (Boxed W (w.heap.size + 1 + 1) 4 (.bool v) ∧ BK W (w.heap.size + 1) (worldC q) 31 ∧ p pre) ∧ Below w.heap.size w W ∧ m ≤ W.heap.size
theorem bk_own (B : Nat) (t : TypeId) (cs : List Value) : Own (fun (_ : List Int) W => BK W B cs t) := fun s X Y row hs hg hrow =>
  (hg.block B hs.lt (fun e' => by obtain ⟨o, ho, hc⟩ := hrow B e'.symm; rw [hs.isCells o ho] at hc; cases hc)).trans hs
theorem size_own (m k : Nat) : OwnFrom k (fun (_ : List Int) (W : World) => m ≤ W.heap.size) := fun s X Y row hs hg hr => Nat.le_trans hs hg.size
theorem litI_own (q : Wv) (w : World) (k : Nat) (p : List Int → Prop) (v : Bool) (m : Nat) (hm : w.heap.size ≤ m) : OwnFrom m (LitI q w k p v) :=
  OwnFrom.and (OwnFrom.and (Own.from (boxed_own _ _ _) _) (OwnFrom.and (Own.from (bk_own _ _ _) _) (ownFrom_pure _ _))) (OwnFrom.and (ownFrom_below (Nat.le_refl _) hm) (size_own _ _))
theorem LitI.makes {q : Wv} {w : World} {m : Nat} {p : List Int → Prop} {v : Bool} {pre : List Int} {X Y : World} (h : LitI q w m p v pre X) (hm : Makes X Y) : LitI q w m p v pre Y :=
  ⟨⟨h.1.1.kept (gr_below hm (r := none)) (by simp), h.1.2.1.below hm, h.1.2.2⟩, h.2.1.trans (Below.mono hm h.2.1.size), Nat.le_trans h.2.2 (Below.size hm)⟩
theorem LitI.set {q : Wv} {w : World} {m : Nat} {p p' : List Int → Prop} {v : Bool} {pre pre' : List Int} {X : World} (h : LitI q w m p v pre X) (u : Bool) (hp : p' pre') : LitI q w m p' u pre' (X.setCell ⟨w.heap.size + 1 + 1, 0, none⟩ (.bool u)) :=
  ⟨⟨h.1.1.set _, h.1.2.1.setO (by omega) _ _, hp⟩, h.2.1.setCell (p := ⟨w.heap.size + 1 + 1, 0, none⟩) (by simp; omega) _, by have := h.2.2; simp [World.setCell]; omega⟩
theorem LitI.with {q : Wv} {w : World} {m : Nat} {p p' : List Int → Prop} {v : Bool} {pre pre' : List Int} {X : World} (h : LitI q w m p v pre X) (hp : p' pre') : LitI q w m p' v pre' X := ⟨⟨h.1.1, h.1.2.1, hp⟩, h.2⟩
/-- The result in its cell, behind the turn of the block for deferred calls. -/
theorem boxed_put {W : World} {B D : Nat} {t : TypeId} {v : Value} {o : Obj} (h : Boxed W B t v) (o' : Obj) (hD : W.heap[D]? = some o) (hc : o.isCells = false) : (W.putObj D o').cell? ⟨B, 0, none⟩ = some v :=
  (h.kept (grownBy_putObj' W D o') (fun e => by
    cases e
    rw [show W.heap[B]? = _ from h] at hD
    cases hD; cases hc)).cell
set_option maxRecDepth 100000 in
set_option maxHeartbeats 8000000 in
theorem litC (x : TAd) (t : TbC) (q : Wv) (d : WdC) (n : Nat) (w : World) (hW : WOk w q d n) :
    Calls Tryz.prog 106 #[tabV x t, worldV q] w fun e w' => e = .returned (.bool (litB d n)) ∧ Below w.heap.size w w' := by
  obtain ⟨W0, hW0⟩ : ∃ W0, ((w.alloc (.cells (tabC x t).toArray 28)).alloc (.cells (worldC q).toArray 31)).alloc (.cells #[.bool false] 4) = W0 := ⟨_, rfl⟩
  have hb0 : Below w.heap.size w W0 := by rw [← hW0]; exact bl_a (bl_a (bl_a (Below.refl _ _) _) _) _
  have z1 : (w.alloc (.cells (tabC x t).toArray 28)).heap.size = w.heap.size + 1 := World.size_alloc _ _
  have z2 : ((w.alloc (.cells (tabC x t).toArray 28)).alloc (.cells (worldC q).toArray 31)).heap.size = w.heap.size + 1 + 1 := by rw [World.size_alloc, z1]
  have HBK0 : Hid (BK W0 (w.heap.size + 1) (worldC q) 31) := Lib.hid (by
    rw [← hW0]
    have := BK.new (w.alloc (.cells (tabC x t).toArray 28)) (worldC q) 31
    rw [z1] at this
    exact this.alloc _)
  have HBX0 : Hid (Boxed W0 (w.heap.size + 1 + 1) 4 (.bool false)) := Lib.hid (by
    rw [← hW0]
    have := Boxed.new ((w.alloc (.cells (tabC x t).toArray 28)).alloc (.cells (worldC q).toArray 31)) 4 (.bool false)
    rwa [z2] at this)
  have HB0 := Lib.hid hb0
  have HHERE := Lib.hid (fun w' (hb : Below w.heap.size w w') => hereC q d n w' (hW.below hb))
  have HHAS := Lib.hid (fun (c : Int) w' (hb : Below w.heap.size w w') => hasC q d c 0 n w' (hW.below hb) (by decide) (by decide))
  have HMK := Lib.hid (fun c w' => mkReached q c w')
  have HSEQ := Lib.hid (fun (B : Nat) w' (hb : Below w.heap.size w w') hB hX (hp : PtrOk (B + 1) w') => reachSeq q d (topOf d.pa n 1) n B w.heap.size (B + 1) w' (hW.below hb) hB hX hW.is.lowL hb.size hp)
  unfold litB
  generalize topOf d.pa n 1 = room at *
  generalize reachV d n room = L at *
  clear z1 z2 hb0
  unfold worldV tabV at *
  obtain ⟨b0, b1, b2, b3, b4, b5, b6, b7, b8, b9, bA, bB, bC⟩ := wd13 (HBK0.out)
  refine callsIn_wide.1 (callsIn_of_wp_marks (n := 9) Tryz.func106 rfl trivial ?_ rfl)
  simp only [Tryz.ntmps106, List.size_toArray, List.length_cons, List.length_nil, Nat.reduceAdd, Nat.reduceSub, Array.replicate_succ, Array.replicate_zero, List.push_toArray, List.append_toArray, List.nil_append, List.cons_append]
  unfold worldC at HHERE HHAS HMK hW0 ⊢
  unfold tabC at hW0 ⊢
  gi_wp2_with fail
  clear hW0
  refine ⟨trivial, (callsIn_wide.2 (HHERE.out _ HB0.out)).mono ?_⟩
  rintro e w1 ⟨rfl, hb1⟩
  have HB1 := Lib.hid (bl_then HB0.out hb1)
  have HBK1 := Lib.hid (HBK0.out.below hb1)
  have HBX1 := Lib.hid (HBX0.out.kept (gr_below hb1 (r := none)) (by simp))
  clear hb1 HBK0 HBX0
  clear b0 b1 b2 b3 b4 b5 b6 b7 b8 b9 bA bB bC
  obtain ⟨b0, b1, b2, b3, b4, b5, b6, b7, b8, b9, bA, bB, bC⟩ := wd13 (HBK1.out)
  gi_wp2_with fail
  refine ⟨trivial, (callsIn_wide.2 (HHAS.out _ _ HB1.out)).mono ?_⟩
  rintro e w2 ⟨rfl, hb2⟩
  have HB2 := Lib.hid (bl_then HB1.out hb2)
  have HBK2 := Lib.hid (HBK1.out.below hb2)
  have HBX2 := Lib.hid (HBX1.out.kept (gr_below hb2 (r := none)) (by simp))
  clear hb2 HBK1 HBX1
  clear b0 b1 b2 b3 b4 b5 b6 b7 b8 b9 bA bB bC
  cases hr : hasB d.fl n room 0 with
  | true =>
    have hx := HBX2.out.cell
    have hf := HBX2.out.frozen
    gi_wp2_with fail
    have hc5 := World.cell?_setCell_same' w2 ⟨w.heap.size + 1 + 1, 0, none⟩ (.bool true) (by rw [hx]; rfl)
    refine ⟨.bool true, ?_, by simp [hr], bl_s HB2.out 0 _ (by omega)⟩
    simp [results, Tryz.f106, go_sem, hc5]
  | false =>
    obtain ⟨b0, b1, b2, b3, b4, b5, b6, b7, b8, b9, bA, bB, bC⟩ := wd13 (HBK2.out)
    gi_wp2_with fail
    refine ⟨trivial, (callsIn_wide.2 (HMK.out _ _)).mono ?_⟩
    rintro e w3 ⟨rfl, hb3, k1, k2⟩
    have hp3 : PtrOk (w2.heap.size + 1) w3 := ⟨k2.lt, fun g hg => by
      have := k2.cell 0
      unfold ptrW at hg
      rw [this] at hg; cases hg⟩
    have hsq := HSEQ.out w2.heap.size w3 (bl_then HB2.out hb3) k1 k2 hp3
    have HB3 := Lib.hid (bl_then HB2.out hb3)
    have HI : Hid (LitI q w w3.heap.size (fun pre => ∀ y ∈ pre, hasB d.fl n y 0 = false) false [] w3) := Lib.hid ⟨⟨HBX2.out.kept (gr_below hb3 (r := none)) (by simp), HBK2.out.below hb3, fun y hy => by cases hy⟩, HB3.out, Nat.le_refl _⟩
    have hz2 := hb3.size
    have hlt3 := k2.lt
    clear k1 k2 hb3 HBK2 HBX2 HSEQ HHERE HMK
    clear b0 b1 b2 b3 b4 b5 b6 b7 b8 b9 bA bB bC
    gi_wp2_with fail
    refine rangeA (gf := 126) rfl (enters_of Tryz.func126 (by kernel_rfl) rfl) hsq (fun X Y h => h.others) (fun X Y Z h k => h.trans k) (fun W l o o' hl h hc => KpG.put (w := w3) HB3.out.size (by omega) hl h hc) (Below.refl _ _) (fun _ => rfl)
      (LitI q w w3.heap.size (fun pre => ∀ y ∈ pre, hasB d.fl n y 0 = false) false) (fun c pre W => c = .ret ∧ LitI q w w3.heap.size (fun pre => ∃ y ∈ pre, hasB d.fl n y 0 = true) true pre W)
      (litI_own _ _ _ _ _ _ HB3.out.size)
      (fun c => OwnFrom.and (ownFrom_pure _ _) (litI_own _ _ _ _ _ _ HB3.out.size))
      (fun s X Y h hm => h.makes hm) (fun c s X Y h hm => ⟨h.1, h.2.makes hm⟩) HI.out ?a1 ?assign ?body ?done ?stop
    case assign =>
      intro l x W K hK
      have HK := Lib.hid hK
      clear hK
      gi_wp2
      exact HK.out
    case body =>
      rintro l pre y W hI hpx
      have HII := Lib.hid hI
      have HBW := Lib.hid hI.1.2.1
      clear hI
      obtain ⟨b0, b1, b2, b3, b4, b5, b6, b7, b8, b9, bA, bB, bC⟩ := wd13 (HBW.out)
      gi_wp2_with fail
      refine ⟨trivial, CallsIn.mono (CallsIn.inRound l (callsIn_wide.2 (HHAS.out y _ HII.out.2.1))) ?_⟩
      rintro e w4 ⟨rfl, hb4⟩
      have HI4 := Lib.hid (HII.out.makes hb4)
      have HB4 := Lib.hid hb4
      clear b0 b1 b2 b3 b4 b5 b6 b7 b8 b9 bA bB bC
      clear hb4
      cases hy : hasB d.fl n y 0 with
      | true =>
        have hx := HI4.out.1.1.cell
        have hf := HI4.out.1.1.frozen
        gi_wp2_with fail
        exact ⟨((Makes.others HB4.out).from _).trans ((KeepsOthers.setCell _ _ _).from _), rfl, HI4.out.set true ⟨y, by simp, hy⟩⟩
      | false =>
        gi_wp2_with fail
        refine ⟨(Makes.others HB4.out).from _, ⟨Below.mono HB4.out HII.out.2.1.size, Makes.kpB HB4.out (by have := HII.out.2.2; omega)⟩, HI4.out.with ?_⟩
        intro y' hy'
        rcases List.mem_append.1 hy' with h | h
        · exact HI4.out.1.2.2 y' h
        · have : y' = y := by simpa using h
          rw [this]; exact hy
    case done =>
      rintro D W hD hI hK
      have hx := hI.1.1.cell
      have hf := hI.1.1.frozen
      have HII := Lib.hid hI
      clear hI
      gi_wp2
      have hK' := (KeepsOthers.setCell W ⟨w.heap.size + 1 + 1, 0, none⟩ (.bool false)).same D _ hK rfl
      refine ⟨by simp, .inl ⟨_, _, rfl, run_takeDeferred hK', ?_⟩⟩
      have HI2 := HII.out.set (p' := fun _ => True) (pre' := []) false trivial
      have hc5 := boxed_put HI2.1.1 (.deferred none) hK' rfl
      refine ⟨.bool false, ?_, ?_, HI2.2.1.trans (belowK_b (w := w) (Nat.le_refl _) _ D _ _ (by have := HB3.out.size; omega) hK' rfl rfl)⟩
      · simp [results, Tryz.f106, go_sem, hc5]
      · have : L.any (fun x => hasB d.fl n x 0) = false := List.any_eq_false.2 (fun y hy => by rw [HII.out.1.2.2 y hy]; simp)
        rw [hr, this]; rfl
    case stop =>
      rintro D c pre W hD hpx ⟨rfl, hI⟩ hK
      have HII := Lib.hid hI
      clear hI
      gi_wp2
      refine ⟨by simp, .inl ⟨_, _, rfl, run_takeDeferred hK, ?_⟩⟩
      have hc5 := boxed_put HII.out.1.1 (.deferred none) hK rfl
      refine ⟨.bool true, ?_, ?_, HII.out.2.1.trans (belowK_b (w := w) (Nat.le_refl _) _ D _ _ (by have := HB3.out.size; omega) hK rfl rfl)⟩
      · simp [results, Tryz.f106, go_sem, hc5]
      · obtain ⟨y, hy, hl⟩ := HII.out.1.2.2
        have : L.any (fun x => hasB d.fl n x 0) = true := List.any_eq_true.2 ⟨y, hpx.subset hy, hl⟩
        rw [hr, this]; rfl
end Go.Proofs.YtjggklfegcejhaaGreat
