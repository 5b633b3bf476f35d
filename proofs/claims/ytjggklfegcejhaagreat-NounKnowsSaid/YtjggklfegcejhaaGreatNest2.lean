/- nest.children's closure, an iterator that reads memory between its rounds. -/
import Derived.Test.YtjggklfegcejhaaGreatNest
namespace Go.Proofs.YtjggklfegcejhaaGreat
open Go.RowKit Go.Shelf
set_option linter.unusedVariables false
set_option linter.unusedSimpArgs false
attribute [local go_sem] Oper.semAt_some

theorem kids_no {ch nx : List Int} {n : Nat} {x : Int} (h : isW n x = false) : kidsW ch nx n x = [] := by unfold kidsW; rw [if_neg (by simp [h])]
theorem isW_spec {n : Nat} {x : Int} : isW n x = true ↔ 1 ≤ x ∧ x < (n : Int) := by unfold isW; simp
set_option maxRecDepth 100000 in
set_option maxHeartbeats 4000000 in
theorem kidsNo (q : Wv) (x : Int) (n B : Nat) (w : World) (l : Nat) (hm : q.l1 ≤ maxLen)
    (hB : BK w B (worldC q) 31) (hX : BK w (B + 1) [.int .i64 x] 3) (hx : isW q.l1 x = false) :
    Calls Tryz.prog 146 #[.func (.yield l) #[] #[], .pointer (some ⟨B, 0, none⟩), .pointer (some ⟨B + 1, 0, none⟩)] w fun e w' => (∃ v, e = .returned v) ∧ Below w.heap.size w w' := by
  have HI := Lib.hid (fun w' => isC q x w' hm)
  rw [hx] at HI
  unfold worldV at HI
  have HB := Lib.hid hB
  have x0 := hX.cell 0
  simp only [List.getElem?_cons_zero] at x0
  clear hB hX hx
  obtain ⟨b0, b1, b2, b3, b4, b5, b6, b7, b8, b9, bA, bB, bC⟩ := wd13 (HB.out)
  unfold worldC at *
  refine callsIn_wide.1 (callsIn_of_wp (n := 9) Tryz.func146 rfl trivial ?_ rfl)
  simp only [Tryz.ntmps146, List.size_toArray, List.length_cons, List.length_nil, Nat.reduceAdd, Nat.reduceSub, Array.replicate_succ, Array.replicate_zero, List.push_toArray, List.append_toArray, List.nil_append, List.cons_append]
  gi_wp2_with fail
  refine ⟨trivial, (callsIn_wide.2 (HI.out _)).mono ?_⟩
  rintro e w1 ⟨rfl, hb1⟩
  have HB1 := Lib.hid hb1
  clear hb1
  gi_wp2_with fail
  refine bodyPost_ret (results_none rfl _ _ _) rfl ?_
  exact ⟨⟨_, rfl⟩, HB1.out⟩
theorem kids_yes {ch nx : List Int} {n : Nat} {x : Int} (h : isW n x = true) : kidsW ch nx n x = chainW nx n n (atW ch x) := by unfold kidsW; rw [if_pos h]
theorem chain_yes {nx : List Int} {n k : Nat} {c : Int} (h : isW n c = true) : chainW nx n (k + 1) c = c :: chainW nx n k (atW nx c) := by rw [chainW, if_pos h]
theorem chain_no {nx : List Int} {n k : Nat} {c : Int} (h : isW n c = false) : chainW nx n k c = [] := by
  cases k with
  | zero => rfl
  | succ k => rw [chainW, if_neg (by simp [h])]
theorem atW_get {l : List Int} {x : Int} (h : x.toNat < l.length) : atW l x = l[x.toNat] := by
  unfold atW; rw [List.getD_eq_getElem?_getD, List.getElem?_eq_getElem h]; rfl
/-- Numbers below n. -/
theorem isW_lt {n : Nat} {x : Int} (h : isW n x = true) : x.toNat < n ∧ 0 ≤ x ∧ x < (n : Int) := by
  have := isW_spec.1 h; omega
set_option maxRecDepth 100000 in
set_option maxHeartbeats 8000000 in
theorem kidsYes (q : Wv) (d : WdC) (x : Int) (n B n0 : Nat) (W : World) (l : Nat) (J Jx : List Int → World → Prop) (hl : WLen q d n) (hW : WIs W q d)
    (hB : BK W B (worldC q) 31) (hX : BK W (B + 1) [.int .i64 x] 3) (hx : isW n x = true)
    (hn0 : B + 1 < n0) (hn1 : n0 ≤ W.heap.size) (hlow : ∀ b o, (q.a1 = some ⟨b, o, none⟩ ∨ q.a2 = some ⟨b, o, none⟩ ∨ q.a3 = some ⟨b, o, none⟩) → b < n0)
    (hJ : ∀ s X Y, J s X → Makes X Y → J s Y) (hJx : ∀ s X Y, Jx s X → Makes X Y → Jx s Y)
    (hR : Rounds Tryz.prog l (fun x : Int => #[.int .i64 x]) (Below n0) (kidsW d.ch d.nx n x) J Jx) (h0 : J [] W) :
    Calls Tryz.prog 146 #[.func (.yield l) #[] #[], .pointer (some ⟨B, 0, none⟩), .pointer (some ⟨B + 1, 0, none⟩)] W fun e W' => (∃ v, e = .returned v) ∧ (J (kidsW d.ch d.nx n x) W' ∨ ∃ pre, pre <+: kidsW d.ch d.nx n x ∧ Jx pre W') := by
  have hnum := hW.nums hl
  have hlt := isW_lt hx
  obtain ⟨bc, oc, hac, hbc, hcc, hwc⟩ := hW.ch.at_ (i := x.toNat) (by rw [hnum.2.1]; exact hlt.1)
  have hcx := hcc x.toNat (by rw [hnum.2.1]; exact hlt.1)
  have hk0 := kids_yes (ch := d.ch) (nx := d.nx) hx
  rw [atW_get (by rw [hnum.2.1]; exact hlt.1)] at hk0
  obtain ⟨v0, hv0⟩ : ∃ v0, d.ch[x.toNat]'(by rw [hnum.2.1]; exact hlt.1) = v0 := ⟨_, rfl⟩
  rw [hv0] at hcx hwc hk0
  have HNX := Lib.hid hW.nx
  have HK := Lib.hid hk0
  have HLO := Lib.hid hlow
  have HJ := Lib.hid hJ
  have HJx := Lib.hid hJx
  have HR := Lib.hid hR
  have H0 := Lib.hid h0
  have HX1 := Lib.hid hx
  have HN3 := Lib.hid hnum.2.2
  obtain ⟨rfl, h2, h3, hm⟩ := hl
  have HI := Lib.hid (fun x w' => isC q x w' hm)
  unfold maxLen at hm
  obtain ⟨hx0, hx1⟩ := hlt.2
  clear hnum hk0 hlow hJ hJx hR h0 hx hcc hv0 hlt hW
  have HB := Lib.hid hB
  have x0 := hX.cell 0
  simp only [List.getElem?_cons_zero] at x0
  clear hB hX
  unfold worldV at HI
  obtain ⟨b0, b1, b2, b3, b4, b5, b6, b7, b8, b9, bA, bB, bC⟩ := wd13 (HB.out)
  unfold worldC at *
  obtain ⟨a0, a1, a2, a3, a4, a5, a6, l0, n, l2, l3, l4, l5, l6, c0, c1, c2, c3, c4, c5, c6, s, sc, tu, ov, it, go⟩ := q
  simp only at *
  subst h2 h3 hac
  refine callsIn_wide.1 (callsIn_of_wp (n := 9) Tryz.func146 rfl trivial ?_ rfl)
  simp only [Tryz.ntmps146, List.size_toArray, List.length_cons, List.length_nil, Nat.reduceAdd, Nat.reduceSub, Array.replicate_succ, Array.replicate_zero, List.push_toArray, List.append_toArray, List.nil_append, List.cons_append]
  gi_wp2_with fail
  refine ⟨trivial, (callsIn_wide.2 (HI.out _ _)).mono ?_⟩
  rintro e w1 ⟨rfl, hb1⟩
  rw [HX1.out]
  have HB1 := Lib.hid hb1
  have hBl := HB.out.lt
  have hB1 := Nat.lt_of_lt_of_le hn0 hn1
  clear b0 b3 b4 b5 b6 b7 b8 b9 bA bB bC
  replace b1 := (hb1.cell (p := ⟨B, 1, none⟩) hBl).trans b1
  replace b2 := (hb1.cell (p := ⟨B, 2, none⟩) hBl).trans b2
  replace x0 := (hb1.cell (p := ⟨B + 1, 0, none⟩) hB1).trans x0
  replace hcx := (hb1.cell (p := ⟨bc, oc + x.toNat, none⟩) hbc).trans hcx
  clear hb1
  gi_wp2_with fail
  clear b1 b2 x0 hcx
  gi_loopw [4, 5] (fun lv cv wr => ∃ (k : Nat) (pre : List Int) (c : Int), lv = .int .i64 k ∧ cv = .int .i64 c ∧ k ≤ l3 ∧ Hid ((Lit.int .i64 c).wf = true) ∧ Hid (kidsW d.ch d.nx l3 x = pre ++ chainW d.nx l3 k c) ∧ Hid (J pre wr) ∧ Hid (Below n0 W wr)) (fun lv _ _ => (intOf lv).toNat)
  case atStart => exact ⟨l3, [], v0, rfl, rfl, Nat.le_refl _, Lib.hid hwc, Lib.hid HK.out, Lib.hid (HJ.out _ _ _ H0.out HB1.out), Lib.hid (HB1.out.mono hn1)⟩
  case round =>
    obtain ⟨k, pre, c, rfl, rfl, hkn, HWF, HKP, HJP, HBW⟩ := hrel
    have HBK : Hid (BK wr B (worldC ⟨a0, a1, some ⟨bc, oc, none⟩, a3, a4, a5, a6, l0, l3, l3, l3, l4, l5, l6, c0, c1, c2, c3, c4, c5, c6, s, sc, tu, ov, it, go⟩) 31) := Lib.hid ((HBW.out.block B (by omega)).trans HB.out)
    obtain ⟨b0, b1, b2, b3, b4, b5, b6, b7, b8, b9, bA, bB, bC⟩ := wd13 (HBK.out)
    cases hic : isW l3 c with
    | false =>
      have HIC := Lib.hid hic
      clear hic
      gi_wp2_with fail
      refine ⟨trivial, (callsIn_wide.2 (HI.out _ _)).mono ?_⟩
      rintro e w2 ⟨rfl, hb2⟩
      rw [HIC.out]
      have HB2 := Lib.hid hb2
      clear hb2
      gi_wp2_with fail
      refine ⟨fun _ h => (by cases h), ?_⟩
      gi_wp2_with fail
      go_end0
      exact ⟨⟨_, rfl⟩, .inl (by rw [HKP.out, chain_no HIC.out, List.append_nil]; exact HJ.out _ _ _ HJP.out HB2.out)⟩
    | true =>
      have HIC := Lib.hid hic
      have hlt := isW_lt hic
      obtain ⟨b3', o3, ha3, hb3, hc3, _⟩ := HNX.out.at_ (i := c.toNat) (by rw [HN3.out]; exact hlt.1)
      have hcn := hc3 c.toNat (by rw [HN3.out]; exact hlt.1)
      have HWN : Hid ((Lit.int .i64 (d.nx[c.toNat]'(by rw [HN3.out]; exact hlt.1))).wf = true) := Lib.hid (by
        obtain ⟨_, _, _, _, _, h⟩ := HNX.out.at_ (i := c.toNat) (by rw [HN3.out]; exact hlt.1)
        exact h)
      have HAT : Hid (atW d.nx c = d.nx[c.toNat]'(by rw [HN3.out]; exact hlt.1)) := Lib.hid (atW_get _)
      generalize d.nx[c.toNat]'(by rw [HN3.out]; exact hlt.1) = v1 at hcn HWN HAT
      have hb3n := HLO.out b3' o3 (.inr (.inr ha3))
      have HCN : Hid (wr.cell? ⟨b3', o3 + c.toNat, none⟩ = some (.int .i64 v1)) := Lib.hid ((HBW.out.cell (p := ⟨b3', o3 + c.toNat, none⟩) hb3n).trans hcn)
      subst ha3
      obtain ⟨hx1', hx2', hx3'⟩ := hlt
      clear hic hc3 hcn
      cases k with
      | zero =>
        gi_wp2_with fail
        refine ⟨trivial, (callsIn_wide.2 (HI.out _ _)).mono ?_⟩
        rintro e w2 ⟨rfl, hb2⟩
        rw [HIC.out]
        have HB2 := Lib.hid hb2
        clear hb2
        gi_wp2_with fail
        refine ⟨fun _ h => (by cases h), ?_⟩
        gi_wp2_with fail
        go_end0
        exact ⟨⟨_, rfl⟩, .inl (by rw [HKP.out, chainW, List.append_nil]; exact HJ.out _ _ _ HJP.out HB2.out)⟩
      | succ k =>
        have HKC : Hid (kidsW d.ch d.nx l3 x = (pre ++ [c]) ++ chainW d.nx l3 k v1) := Lib.hid (by rw [HKP.out, chain_yes HIC.out, HAT.out]; simp)
        have hk0 : (0 : Int) < ((k + 1 : Nat) : Int) := by omega
        gi_wp2_with fail
        refine ⟨trivial, (callsIn_wide.2 (HI.out _ _)).mono ?_⟩
        rintro e w2 ⟨rfl, hb2⟩
        rw [HIC.out]
        have HB2 := Lib.hid hb2
        obtain ⟨fn, tmps, assign, body, hy, hRd⟩ := HR.out 8 pre c w2 (HJ.out _ _ _ HJP.out hb2) ⟨_, HKC.out.symm⟩
        clear hb2
        gi_wp2_with fail
        clear b0 b1 b2 b3 b4 b5 b6 b7 b8 b9 bA bB bC
        refine hRd.mono ?_
        rintro e w3 (⟨rfl, hJ3, hb3w⟩ | ⟨rfl, hJx3⟩)
        · have HB3 : Hid (Below n0 W w3) := Lib.hid ((HBW.out.trans (HB2.out.mono (Nat.le_trans hn1 HBW.out.size))).trans hb3w)
          have b3 := ((HB3.out.cell (p := ⟨B, 3, none⟩) (by omega : B < n0)).trans (HB.out.cell 3))
          simp only [List.getElem?_cons_zero, List.getElem?_cons_succ] at b3
          have hcn : w3.cell? ⟨b3', o3 + c.toNat, none⟩ = some (.int .i64 v1) := (((HB2.out.mono (Nat.le_trans hn1 HBW.out.size)).trans hb3w).cell (p := ⟨b3', o3 + c.toNat, none⟩) hb3n).trans HCN.out
          have HJ3 := Lib.hid hJ3
          clear hJ3 hb3w
          gi_wp2_with fail
          go_roundw
          case rel => exact ⟨k, pre ++ [c], v1, by go_num, rfl, by omega, HWN, HKC, HJ3, HB3⟩
          case measure => simp [intOf]
        · have HJX3 := Lib.hid hJx3
          clear hJx3
          gi_wp2_with fail
          go_end0
          exact ⟨⟨_, rfl⟩, .inr ⟨pre ++ [c], ⟨_, HKC.out.symm⟩, HJX3.out⟩⟩
/-- A world's lists lie below n0. -/
def Low (q : Wv) (n0 : Nat) : Prop := ∀ b o, (q.a1 = some ⟨b, o, none⟩ ∨ q.a2 = some ⟨b, o, none⟩ ∨ q.a3 = some ⟨b, o, none⟩) → b < n0
theorem RowI.low {w : World} {a : Option Addr} {n c b o : Nat} {l : List Int} (h : RowI w (.slice a n c) l) (hn : 0 < l.length) (ha : a = some ⟨b, o, none⟩) : b < w.heap.size := by
  obtain ⟨b', o', e, h1, _⟩ := h.at_ hn
  rw [ha] at e
  simp at e
  rw [e.1]; exact h1
/-- nest.children: an iterator. -/
theorem kidsSeq (q : Wv) (d : WdC) (x : Int) (n B n0 : Nat) (w : World) (hl : WLen q d n) (hn : 0 < n) (hw : WIs w q d)
    (hB : BK w B (worldC q) 31) (hX : BK w (B + 1) [.int .i64 x] 3) (hn0 : B + 1 < n0) (hn1 : n0 ≤ w.heap.size) (hlow : Low q n0) :
    SeqA Tryz.prog 146 #[.pointer (some ⟨B, 0, none⟩), .pointer (some ⟨B + 1, 0, none⟩)] (fun x : Int => #[.int .i64 x]) Makes (Below n0) (kidsW d.ch d.nx n x) w := fun l J Jx W hW hJ hJx hR h0 => by
  cases hx : isW n x with
  | false =>
    refine (kidsNo q x n B W l (by rw [hl.h1]; exact hl.few) (hB.below hW) (hX.below hW) (by rw [hl.h1]; exact hx)).mono ?_
    rintro e W' ⟨hv, hb⟩
    exact ⟨hv, .inl (by rw [kids_no hx]; exact hJ _ _ _ h0 hb)⟩
  | true => exact kidsYes q d x n B n0 W l J Jx hl (hw.below hW) (hB.below hW) (hX.below hW) hx hn0 (Nat.le_trans hn1 hW.size) hlow hJ hJx hR h0
end Go.Proofs.YtjggklfegcejhaaGreat
