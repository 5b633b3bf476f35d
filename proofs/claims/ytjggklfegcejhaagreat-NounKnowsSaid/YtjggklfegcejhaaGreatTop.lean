/- nest.ups' closure, an iterator with a variable of its own in memory; nest.Top. -/
import Derived.Test.YtjggklfegcejhaaGreatNest2
import Derived.Test.YtjggklfegcejhaaGreatSeq
namespace Go.Proofs.YtjggklfegcejhaaGreat
open Go.RowKit Go.Shelf
set_option linter.unusedVariables false
set_option linter.unusedSimpArgs false
attribute [local go_sem] Oper.semAt_some

theorem mkUpsC (q : Wv) (x : Int) (w : World) :
    Calls Tryz.prog 138 #[worldV q, .int .i64 x] w fun e w' => e = .returned (.func (.func 143) #[] #[.pointer (some ⟨w.heap.size, 0, none⟩), .pointer (some ⟨w.heap.size + 1, 0, none⟩)]) ∧
      w' = (w.alloc (.cells (worldC q).toArray 31)).alloc (.cells #[.int .i64 x] 3) := by
  unfold worldV worldC
  go_enter Tryz.func138, Tryz.ntmps138
  go_wp2
  go_ret
  exact ⟨rfl, rfl⟩
/-- All below n0, but some blocks, lies as it lay. -/
structure But (n0 : Nat) (S : List Nat) (W W' : World) : Prop where
  size : W.heap.size ≤ W'.heap.size
  blk : ∀ b, b < n0 → b ∉ S → W'.heap[b]? = W.heap[b]?
theorem But.refl (n0 : Nat) (S : List Nat) (W : World) : But n0 S W W := ⟨Nat.le_refl _, fun _ _ _ => rfl⟩
theorem But.trans {n0 : Nat} {S : List Nat} {X Y Z : World} (h : But n0 S X Y) (g : But n0 S Y Z) : But n0 S X Z := ⟨Nat.le_trans h.size g.size, fun b hb hn => (g.blk b hb hn).trans (h.blk b hb hn)⟩
theorem But.more {n0 : Nat} {S S' : List Nat} {X Y : World} (h : But n0 S X Y) (hs : ∀ x ∈ S, x ∈ S') : But n0 S' X Y := ⟨h.size, fun b hb hn => h.blk b hb (fun e => hn (hs b e))⟩
theorem But.below {n0 : Nat} {S : List Nat} {X Y Z : World} (h : But n0 S X Y) (g : Below n0 Y Z) : But n0 S X Z := ⟨Nat.le_trans h.size g.size, fun b hb hn => (g.block b hb).trans (h.blk b hb hn)⟩
theorem But.set {n0 k : Nat} {S : List Nat} {X Y : World} (h : But n0 S X Y) (hk : k ∈ S) (o : Nat) (u : Value) : But n0 S X (Y.setCell ⟨k, o, none⟩ u) := ⟨Nat.le_trans h.size (by simp [World.setCell]), fun b hb hn => (Below.heap_setCell _ _ _ _ (fun e => hn (by subst e; exact hk))).trans (h.blk b hb hn)⟩
theorem But.cell {n0 : Nat} {S : List Nat} {X Y : World} (h : But n0 S X Y) {b o : Nat} (hb : b < n0) (hn : b ∉ S) : Y.cell? ⟨b, o, none⟩ = X.cell? ⟨b, o, none⟩ := World.cell?_of_block (a := ⟨b, o, none⟩) (h.blk b hb hn)
/-- What the iterator does: it turns its own variable, and makes memory. -/
def UpsA (B : Nat) (X Y : World) : Prop := X.grownBy Y (some (B + 1)) ∧ ∀ o, X.heap[B + 1]? = some o → o.isCells = true
theorem ups_yes {pa : List Int} {n k : Nat} {c : Int} (h : isW n c = true) : upsW pa n (k + 1) c = c :: upsW pa n k (atW pa c) := by rw [upsW, if_pos h]
theorem ups_no {pa : List Int} {n k : Nat} {c : Int} (h : isW n c = false) : upsW pa n k c = [] := by
  cases k with
  | zero => rfl
  | succ k => rw [upsW, if_neg (by simp [h])]
set_option maxRecDepth 100000 in
set_option maxHeartbeats 8000000 in
theorem upsRun (q : Wv) (d : WdC) (x : Int) (n B n0 kO : Nat) (W : World) (l : Nat) (J Jx : List Int → World → Prop) (hl : WLen q d n) (hW : WIs W q d)
    (hB : BK W B (worldC q) 31) (hX : BK W (B + 1) [.int .i64 x] 3)
    (hn0 : B + 1 < n0) (hn1 : n0 ≤ W.heap.size) (hlow : Low q kO) (hkO : kO < B)
    (hJ : ∀ s X Y, J s X → UpsA B X Y → J s Y) (hJx : ∀ s X Y, Jx s X → UpsA B X Y → Jx s Y)
    (hR : Rounds Tryz.prog l (fun x : Int => #[.int .i64 x]) (But n0 [kO]) (upsW d.pa n n x) J Jx) (h0 : J [] W) :
    Calls Tryz.prog 143 #[.func (.yield l) #[] #[], .pointer (some ⟨B, 0, none⟩), .pointer (some ⟨B + 1, 0, none⟩)] W fun e W' => (∃ v, e = .returned v) ∧ (J (upsW d.pa n n x) W' ∨ ∃ pre, pre <+: upsW d.pa n n x ∧ Jx pre W') := by
  have hnum := hW.nums hl
  have HPA := Lib.hid hW.pa
  have HLO := Lib.hid hlow
  have HJ := Lib.hid hJ
  have HJx := Lib.hid hJx
  have HR := Lib.hid hR
  have H0 := Lib.hid h0
  have HN3 := Lib.hid hnum.1
  obtain ⟨rfl, h2, h3, hm⟩ := hl
  have HI := Lib.hid (fun x w' => isC q x w' hm)
  unfold maxLen at hm
  clear hnum hlow hJ hJx hR h0 hW
  have HB := Lib.hid hB
  have HX := Lib.hid hX
  clear hB hX
  unfold worldV at HI
  obtain ⟨b0, b1, b2, b3, b4, b5, b6, b7, b8, b9, bA, bB, bC⟩ := wd13 (HB.out)
  unfold worldC at *
  obtain ⟨a0, a1, a2, a3, a4, a5, a6, l0, n, l2, l3, l4, l5, l6, c0, c1, c2, c3, c4, c5, c6, s, sc, tu, ov, it, go⟩ := q
  simp only at *
  subst h2 h3
  refine callsIn_wide.1 (callsIn_of_wp (n := 9) Tryz.func143 rfl trivial ?_ rfl)
  simp only [Tryz.ntmps143, List.size_toArray, List.length_cons, List.length_nil, Nat.reduceAdd, Nat.reduceSub, Array.replicate_succ, Array.replicate_zero, List.push_toArray, List.append_toArray, List.nil_append, List.cons_append]
  gi_wp2_with fail
  clear b0 b1 b2 b3 b4 b5 b6 b7 b8 b9 bA bB bC
  gi_loopw [4] (fun lv wr => ∃ (k : Nat) (pre : List Int) (c : Int), lv = .int .i64 k ∧ k ≤ l3 ∧ Hid (BK wr (B + 1) [.int .i64 c] 3) ∧ Hid (upsW d.pa l3 l3 x = pre ++ upsW d.pa l3 k c) ∧ Hid (J pre wr) ∧ Hid (But n0 [kO, B + 1] W wr)) (fun lv _ => (intOf lv).toNat)
  case atStart => exact ⟨l3, [], x, rfl, Nat.le_refl _, HX, Lib.hid rfl, H0, Lib.hid (But.refl _ _ _)⟩
  case round =>
    obtain ⟨k, pre, c, rfl, hkn, HXC, HKP, HJP, HBW⟩ := hrel
    have HBK : Hid (BK wr B (worldC ⟨a0, a1, a2, a3, a4, a5, a6, l0, l3, l3, l3, l4, l5, l6, c0, c1, c2, c3, c4, c5, c6, s, sc, tu, ov, it, go⟩) 31) := Lib.hid ((HBW.out.blk B (by omega) (by simp; omega)).trans HB.out)
    obtain ⟨b0, b1, b2, b3, b4, b5, b6, b7, b8, b9, bA, bB, bC⟩ := wd13 (HBK.out)
    have x0 := HXC.out.cell 0
    have xf := HXC.out.fr 0
    simp only [List.getElem?_cons_zero] at x0
    cases hic : isW l3 c with
    | false =>
      have HIC := Lib.hid hic
      clear hic
      gi_wp2_with fail
      refine ⟨trivial, (callsIn_wide.2 (HI.out _ _)).mono ?_⟩
      rintro e w2 ⟨rfl, hb2⟩
      rw [HIC.out]
      have HB2 := Lib.hid hb2
      clear hb2
      gi_wp2_with fail
      refine ⟨fun _ h => (by cases h), ?_⟩
      gi_wp2_with fail
      go_end0
      exact ⟨⟨_, rfl⟩, .inl (by rw [HKP.out, ups_no HIC.out, List.append_nil]; exact HJ.out _ _ _ HJP.out ⟨gr_below HB2.out, HXC.out.isCells⟩)⟩
    | true =>
      have HIC := Lib.hid hic
      have hlt := isW_lt hic
      obtain ⟨b3', o3, ha3, hb3, hc3, _⟩ := HPA.out.at_ (i := c.toNat) (by rw [HN3.out]; exact hlt.1)
      have hcn := hc3 c.toNat (by rw [HN3.out]; exact hlt.1)
      have HAT : Hid (atW d.pa c = d.pa[c.toNat]'(by rw [HN3.out]; exact hlt.1)) := Lib.hid (atW_get _)
      generalize d.pa[c.toNat]'(by rw [HN3.out]; exact hlt.1) = v1 at hcn HAT
      have hb3n := HLO.out b3' o3 (.inl ha3)
      have HCN : Hid (wr.cell? ⟨b3', o3 + c.toNat, none⟩ = some (.int .i64 v1)) := Lib.hid ((HBW.out.cell (by omega) (by simp; omega)).trans hcn)
      subst ha3
      obtain ⟨hx1', hx2', hx3'⟩ := hlt
      clear hic hc3 hcn
      cases k with
      | zero =>
        gi_wp2_with fail
        refine ⟨trivial, (callsIn_wide.2 (HI.out _ _)).mono ?_⟩
        rintro e w2 ⟨rfl, hb2⟩
        rw [HIC.out]
        have HB2 := Lib.hid hb2
        clear hb2
        gi_wp2_with fail
        refine ⟨fun _ h => (by cases h), ?_⟩
        gi_wp2_with fail
        go_end0
        exact ⟨⟨_, rfl⟩, .inl (by rw [HKP.out, upsW, List.append_nil]; exact HJ.out _ _ _ HJP.out ⟨gr_below HB2.out, HXC.out.isCells⟩)⟩
      | succ k =>
        have HKC : Hid (upsW d.pa l3 l3 x = (pre ++ [c]) ++ upsW d.pa l3 k v1) := Lib.hid (by rw [HKP.out, ups_yes HIC.out, HAT.out]; simp)
        have hk0 : (0 : Int) < ((k + 1 : Nat) : Int) := by omega
        gi_wp2_with fail
        refine ⟨trivial, (callsIn_wide.2 (HI.out _ _)).mono ?_⟩
        rintro e w2 ⟨rfl, hb2⟩
        rw [HIC.out]
        have HB2 := Lib.hid hb2
        have HX2 := Lib.hid (HXC.out.below hb2)
        obtain ⟨fn, tmps, assign, body, hy, hRd⟩ := HR.out 8 pre c w2 (HJ.out _ _ _ HJP.out ⟨gr_below hb2, HXC.out.isCells⟩) ⟨_, HKC.out.symm⟩
        clear hb2 x0 xf
        have x0 := HX2.out.cell 0
        simp only [List.getElem?_cons_zero] at x0
        gi_wp2_with fail
        clear b0 b1 b2 b3 b4 b5 b6 b7 b8 b9 bA bB bC x0
        refine hRd.mono ?_
        rintro e w3 (⟨rfl, hJ3, hb3w⟩ | ⟨rfl, hJx3⟩)
        · have HB3 : Hid (But n0 [kO, B + 1] W w3) := Lib.hid ((HBW.out.below (HB2.out.mono (Nat.le_trans hn1 HBW.out.size))).trans (hb3w.more (fun x hx => by simp at hx; simp [hx])))
          have b1 := ((HB3.out.cell (o := 1) (by omega : B < n0) (by simp; omega)).trans (HB.out.cell 1))
          simp only [List.getElem?_cons_zero, List.getElem?_cons_succ] at b1
          have hcn : w3.cell? ⟨b3', o3 + c.toNat, none⟩ = some (.int .i64 v1) := ((hb3w.cell (by omega) (by simp; omega)).trans ((HB2.out.mono (Nat.le_trans hn1 HBW.out.size)).cell (p := ⟨b3', o3 + c.toNat, none⟩) (by show b3' < n0; omega))).trans HCN.out
          have HX3 : Hid (BK w3 (B + 1) [.int .i64 c] 3) := Lib.hid ((hb3w.blk (B + 1) hn0 (by simp; omega)).trans HX2.out)
          have x0 := HX3.out.cell 0
          have xf := HX3.out.fr 0
          simp only [List.getElem?_cons_zero] at x0
          have HJ3 := Lib.hid hJ3
          clear hJ3 hb3w
          gi_wp2_with fail
          go_roundw
          case rel => exact ⟨k, pre ++ [c], v1, by go_num, by omega, Lib.hid (HX3.out.set 0 _), HKC, Lib.hid (HJ.out _ _ _ HJ3.out ⟨gr_set _ _ _ _, HX3.out.isCells⟩), Lib.hid (HB3.out.set (by simp) _ _)⟩
          case measure => simp [intOf]
        · have HJX3 := Lib.hid hJx3
          clear hJx3
          gi_wp2_with fail
          go_end0
          exact ⟨⟨_, rfl⟩, .inr ⟨pre ++ [c], ⟨_, HKC.out.symm⟩, HJX3.out⟩⟩
theorem upsSeq (q : Wv) (d : WdC) (x : Int) (n B n0 kO : Nat) (w : World) (hl : WLen q d n) (hw : WIs w q d)
    (hB : BK w B (worldC q) 31) (hX : BK w (B + 1) [.int .i64 x] 3) (hn0 : B + 1 < n0) (hn1 : n0 ≤ w.heap.size) (hlow : Low q kO) (hkO : kO < B) :
    SeqA Tryz.prog 143 #[.pointer (some ⟨B, 0, none⟩), .pointer (some ⟨B + 1, 0, none⟩)] (fun x : Int => #[.int .i64 x]) (UpsA B) (But n0 [kO]) (upsW d.pa n n x) w := fun l J Jx W hW hJ hJx hR h0 =>
  upsRun q d x n B n0 kO W l J Jx hl (hw.below hW) (hB.below hW) (hX.below hW) hn0 (Nat.le_trans hn1 hW.size) hlow hkO hJ hJx hR h0
theorem mkUps (q : Wv) (x : Int) (w : World) :
    Calls Tryz.prog 138 #[worldV q, .int .i64 x] w fun e w' => e = .returned (.func (.func 143) #[] #[.pointer (some ⟨w.heap.size, 0, none⟩), .pointer (some ⟨w.heap.size + 1, 0, none⟩)]) ∧
      Below w.heap.size w w' ∧ BK w' w.heap.size (worldC q) 31 ∧ BK w' (w.heap.size + 1) [.int .i64 x] 3 := (mkUpsC q x w).mono (by
  rintro e w' ⟨he, rfl⟩
  refine ⟨he, bl_a (bl_a (Below.refl _ _) _) _, (BK.new w (worldC q) 31).alloc _, ?_⟩
  have := BK.new (w.alloc (.cells (worldC q).toArray 31)) [.int .i64 x] 3
  rwa [World.size_alloc] at this)
/-- The last of what a thing is in. -/
def topOf (pa : List Int) (n : Nat) (x : Int) : Int := (upsW pa n n x).getLast?.getD 0
set_option maxRecDepth 100000 in
set_option maxHeartbeats 4000000 in
theorem topC (q : Wv) (d : WdC) (x : Int) (n : Nat) (w : World) (hw : WIs w q d) (hl : WLen q d n) (hn : 0 < n) :
    Calls Tryz.prog 122 #[worldV q, .int .i64 x] w fun e w' => e = .returned (.int .i64 (topOf d.pa n x)) ∧ Below w.heap.size w w' := by
  have HM := Lib.hid (fun w' => mkUps q x w')
  have hnum := hw.nums hl
  have hlow : Low q w.heap.size := fun b o h => by
    rcases h with h | h | h
    · exact hw.pa.low (by omega) h
    · exact hw.ch.low (by omega) h
    · exact hw.nx.low (by omega) h
  have HSQ : Hid (∀ W2, Below w.heap.size w W2 → BK W2 (w.heap.size + 1 + 1) (worldC q) 31 → BK W2 (w.heap.size + 1 + 1 + 1) [.int .i64 x] 3 → 
      SeqA Tryz.prog 143 #[.pointer (some ⟨w.heap.size + 1 + 1, 0, none⟩), .pointer (some ⟨w.heap.size + 1 + 1 + 1, 0, none⟩)] (fun x : Int => #[.int .i64 x]) (UpsA (w.heap.size + 1 + 1)) (But W2.heap.size [w.heap.size + 1]) (upsW d.pa n n x) W2) := Lib.hid (fun W2 hb k1 k2 =>
    upsSeq q d x n _ W2.heap.size (w.heap.size + 1) W2 hl (hw.below hb) k1 k2 k2.lt (Nat.le_refl _) (fun b o h => by have := hlow b o h; omega) (by omega))
  unfold topOf
  generalize upsW d.pa n n x = L at HSQ
  clear hw hl hn hnum hlow
  unfold worldV worldC at *
  refine callsIn_wide.1 (callsIn_of_wp_marks (n := 9) Tryz.func122 rfl trivial ?_ rfl)
  simp only [Tryz.ntmps122, List.size_toArray, List.length_cons, List.length_nil, Nat.reduceAdd, Nat.reduceSub, Array.replicate_succ, Array.replicate_zero, List.push_toArray, List.append_toArray, List.nil_append, List.cons_append]
  gi_wp2_with fail
  refine ⟨trivial, (callsIn_wide.2 (HM.out _)).mono ?_⟩
  rintro e W2 ⟨rfl, hb2, k1, k2⟩
  have hb := (bl_a (bl_a (Below.refl w.heap.size w) (.cells (worldC q).toArray 31)) (.cells #[.int .i64 0] 3)).trans (hb2.mono (bl_a (bl_a (Below.refl w.heap.size w) (.cells (worldC q).toArray 31)) (.cells #[.int .i64 0] 3)).size)
  have bO : Boxed W2 (w.heap.size + 1) 3 (.int .i64 0) := by
    have := Boxed.new (w.alloc (.cells (worldC q).toArray 31)) 3 (.int .i64 0)
    rw [World.size_alloc] at this
    exact this.kept (gr_below hb2 (r := none)) (by simp)
  rw [World.size_alloc, World.size_alloc] at k1 k2
  have hseq := HSQ.out W2 hb k1 k2
  have hlt := k2.lt
  clear HSQ HM k1 k2 hb2
  gi_wp2_with fail
  refine rangeA (gf := 143) rfl (enters_of Tryz.func143 (by kernel_rfl) rfl) hseq (fun X Y h => KeepsOthers.of_grownBy h.1 (fun j o e ho => h.2 o (by cases e; exact ho))) (fun X Y Z h k => h.trans k) (fun W l o o' hl h hc => (But.refl _ _ W).below ((Below.refl _ W).grown (grownBy_putObj' W l o') (by have := (Array.getElem?_eq_some_iff.1 h).1; omega) (fun k e => by cases e; omega))) (Below.refl _ _) (fun _ => rfl)
    (fun pre W => Boxed W (w.heap.size + 1) 3 (.int .i64 (pre.getLast?.getD 0)) ∧ Below w.heap.size w W) (fun _ _ _ => False)
    (OwnFrom.and (Own.from (boxed_own _ _ _) _) (ownFrom_below (Nat.le_refl _) hb.size))
    (fun _ _ _ _ _ hs _ _ => hs)
    (fun s X Y h hm => ⟨h.1.kept hm.1 (by simp), h.2.grown hm.1 h.2.size (fun k e => by cases e; omega)⟩)
    (fun _ _ _ _ h _ => h)
    ⟨bO, hb⟩ ?a1 ?assign ?body ?done ?stop
  case assign =>
    intro l x W K hK
    have HK := Lib.hid hK
    clear hK
    gi_wp2
    exact HK.out
  case body =>
    rintro l pre x W ⟨hv, hB⟩ hpx
    have hc := hv.cell
    have hf := hv.frozen
    have HV := Lib.hid hv
    have HB := Lib.hid hB
    clear hv hB
    gi_wp2
    exact ⟨(KeepsOthers.setCell _ _ _).from _, (But.refl _ _ _).set (by simp) _ _, by simpa using HV.out.set _, HB.out.setCell (p := ⟨w.heap.size + 1, 0, none⟩) (by simp) _⟩
  case done =>
    rintro D W hD ⟨hv, hB⟩ hK
    have hc := hv.cell
    gi_wp2
    refine ⟨by simp, .inl ⟨_, _, rfl, run_takeDeferred hK, ?_⟩⟩
    exact ⟨_, results_tmp rfl _ _ _, rfl, hB.trans (belowK_b (w := w) (Nat.le_refl _) W D _ _ (by have := hb.size; omega) hK rfl rfl)⟩
  case stop =>
    rintro D c pre W _ _ h _
    exact h.elim
end Go.Proofs.YtjggklfegcejhaaGreat
