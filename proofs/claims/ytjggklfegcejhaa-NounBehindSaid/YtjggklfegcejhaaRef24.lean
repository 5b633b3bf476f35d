/- Contracts of clewref19's all and placed. -/
import Derived.Test.YtjggklfegcejhaaRef23
import Derived.Test.YtjggklfegcejhaaTwo
import Derived.Test.YtjggklfegcejhaaFitsC
namespace Go.Proofs.Ytjggklfegcejhaa
open Go.RowKit Go.PlainAid
set_option linter.unusedVariables false
set_option linter.unusedSimpArgs false

theorem Reads.rowI {w : World} {v : Value} {l : List Int} (h : Reads Cd.is w v l) : RowI w v l := by
  obtain ⟨a, cap, rfl, h1, h2⟩ := h.q.len
  refine ⟨a, cap, rfl, h2, h1, fun i hi => ?_⟩
  obtain ⟨b, off, cap', g1, g2, g3, g4⟩ := h.q.open (by omega)
  obtain ⟨row, r1, ⟨r2, r4⟩, r3⟩ := g4 i hi
  subst r2
  have := r3 0 (by decide)
  rw [show Cd.i.k = 1 from rfl, Nat.mul_one, Nat.add_zero] at this
  simp only [Value.slice.injEq] at g1
  exact ⟨b, off, g1.1, g3, this, r4⟩
/-- A world that came in. -/
structure WRd (w : World) (q : Wv) (d : WdC) : Prop where
  gl : Reads Cd.is w (.slice q.a0 q.l0 q.c0) d.gl
  pa : Reads Cd.is w (.slice q.a1 q.l1 q.c1) d.pa
  ch : Reads Cd.is w (.slice q.a2 q.l2 q.c2) d.ch
  nx : Reads Cd.is w (.slice q.a3 q.l3 q.c3) d.nx
  fl : Reads Cd.is w (.slice q.a4 q.l4 q.c4) d.fl
  pr : Reads Cd.is w (.slice q.a5 q.l5 q.c5) d.pr
  ti : Reads Cd.is w (.slice q.a6 q.l6 q.c6) d.ti
  (i1 : I64 q.sc) (i2 : I64 q.tu) (i3 : I64 q.ov) (i4 : I64 q.it) (i5 : I64 q.go)
theorem WRd.below {w w' : World} {q : Wv} {d : WdC} (h : WRd w q d) (hb : Below w.heap.size w w') : WRd w' q d :=
  ⟨h.gl.below hb, h.pa.below hb, h.ch.below hb, h.nx.below hb, h.fl.below hb, h.pr.below hb, h.ti.below hb, h.i1, h.i2, h.i3, h.i4, h.i5⟩
theorem WRd.is {w : World} {q : Wv} {d : WdC} (h : WRd w q d) : WIs w q d :=
  ⟨h.gl.rowI, h.pa.rowI, h.ch.rowI, h.nx.rowI, h.fl.rowI, h.pr.rowI, h.ti.rowI, h.i1, h.i2, h.i3, h.i4, h.i5⟩
set_option maxRecDepth 100000 in
theorem ref19all (v : Value) (l : List Int) (lo hi : Int) (w : World) (hv : Reads Cd.is w v l) : Calls Try.prog 42 #[v, .int .i64 lo, .int .i64 hi] w (IffB (∀ n ∈ l, (lo ≤ n ∧ n ≤ hi)) w) := by
  obtain ⟨a0, c0, hv0, hc0, hm0⟩ := hv.q.len
  subst hv0
  unfold maxLen at hm0
  have HV := Lib.hid hv
  clear hv
  go_enter Try.func42, Try.ntmps42
  go_wp2
  go_loop [7] (fun i => ∃ (p : Nat), i = .int .i64 p ∧ p ≤ l.length ∧ Hid (∀ n ∈ l.take p, (lo ≤ n ∧ n ≤ hi))) (fun i => l.length - (intOf i).toNat)
  case atStart => exact ⟨0, rfl, Nat.zero_le _, Lib.hid (fun n h => by simp at h)⟩
  case round =>
    obtain ⟨p, rfl, hpl, HI⟩ := hrel
    by_cases hlt : p < l.length
    · obtain ⟨b, off, cap, hv, hcap, hblt, hcell⟩ := int_open HV.out (by omega)
      have hac : a0 = some ⟨b, off, none⟩ := by simp at hv; exact hv.1
      subst hac
      have e0 := hcell p hlt
      have HM := Lib.hid (List.getElem_mem hlt)
      have HT : Hid ((lo ≤ l[p] ∧ l[p] ≤ hi) → ∀ x ∈ l.take (p + 1), (lo ≤ x ∧ x ≤ hi)) := Lib.hid (take_all hlt HI.out)
      generalize l[p] = n at e0 HM HT
      clear hcell hv
      go_wp2_with (go_at_call 29; refine (refFrom n lo hi _).mono ?_; rintro e w' ⟨b1, rfl, hb1, rfl⟩; have HB1 := Lib.hid hb1; clear hb1)
      · go_ret
        exact IffB.f fun h => by have := HB1.out.2 (h n HM.out); simp_all
      · go_round
        case rel => exact ⟨p + 1, by go_num, by omega, Lib.hid (HT.out (HB1.out.1 (by simp_all)))⟩
        case measure => simp [intOf]; omega
    · go_wp2
      go_ret
      exact IffB.t (take_full hlt HI.out)
set_option maxRecDepth 100000 in
set_option maxHeartbeats 8000000 in
theorem ref19placed (x : TAd) (t : TbC) (q : Wv) (d : WdC) (w : World) (ht : TabIs w x t) (hw : WIs w q d) (hl : WLen q d t.th.length) (h2 : 2 ≤ t.th.length) :
    Calls Try.prog 44 #[tabV x t, worldV q] w (OneW True w) := by
  have hnew := Two.new x t q w
  obtain ⟨W0, hW0⟩ : ∃ W0, (w.alloc (.cells (tabC x t).toArray 28)).alloc (.cells (worldC q).toArray 33) = W0 := ⟨_, rfl⟩
  rw [hW0] at hnew
  have hm := hl.few
  unfold maxLen at hm
  have hnum := hw.nums hl
  have HL1 := Lib.hid hl.h1
  have hlm : q.l1 ≤ 9223372036854775807 := by rw [HL1.out]; omega
  obtain ⟨bp, op, hap, hbp, hcp, _⟩ := hw.pa.at_ (i := 0) (by rw [hnum.1]; omega)
  have HP1 : Hid (∀ j (h : j < t.th.length), ∀ w', Below w.heap.size w w' → w'.cell? ⟨bp, op + j, none⟩ = some (.int .i64 (atW d.pa (j : Int)))) := Lib.hid (fun j h w' hb => by
    rw [hb.cell (p := ⟨bp, op + j, none⟩) hbp, hcp j (by rw [hnum.1]; exact h), atW_get (by rw [hnum.1]; exact h)]; rfl)
  have HCT := Lib.hid (fun w' (hb : Below w.heap.size w w') => ref19top q d 1 t.th.length w' (hw.below hb) hl)
  have htop := top_is (pa := d.pa) (n := t.th.length) (x := 1) (isW_spec.2 (by omega)) (by omega)
  generalize topOf d.pa t.th.length 1 = tp at HCT htop
  obtain ⟨k, rfl⟩ : ∃ k : Nat, tp = k := ⟨tp.toNat, by have := (isW_spec.1 htop).1; omega⟩
  have hk : k < t.th.length := by have := (isW_spec.1 htop).2; omega
  obtain ⟨b, off, cap, hv, hcap, hblt, hcell⟩ := th_open ht.th (by omega)
  have hac : x.a8 = some ⟨b, off, none⟩ := by simp at hv; exact hv.1
  have HR : Hid (∀ j, j < t.th.length → ∃ rm, ∀ w', Below w.heap.size w w' → w'.cell? ⟨b, off + j * 9 + 4, none⟩ = some (.bool rm)) := Lib.hid (fun j hj => by
    obtain ⟨r1, r2, r3, r4, hth, hrow⟩ := hcell j hj
    have e4 := hrow 4 (by decide)
    simp only [thRow, List.getElem?_cons_zero, List.getElem?_cons_succ] at e4
    exact ⟨_, fun w' hb => (hb.cell (p := ⟨b, off + j * 9 + 4, none⟩) hblt).trans e4⟩)
  have HAC := Lib.hid hac
  have HAP := Lib.hid hap
  clear ht hw hl htop hcell hcp hv hac hap
  unfold tabV worldV at *
  go_enter Try.func44, Try.ntmps44
  unfold worldC at HCT hW0 ⊢
  unfold tabC at hW0 ⊢
  go_wp2_with fail
  clear hW0
  have HN0 := Lib.hid hnew
  clear hnew
  go_loopw [5] (fun iv wr => ∃ (i : Nat), iv = .int .i64 i ∧ 1 ≤ i ∧ i ≤ t.th.length ∧ Hid (Two x t q w wr)) (fun iv _ => t.th.length - (intOf iv).toNat)
  case atStart => exact ⟨1, rfl, Nat.le_refl _, by omega, HN0⟩
  case round =>
    clear HN0
    obtain ⟨i, rfl, hi1, hil, hnew⟩ := hrel
    have hnew := hnew.out
    have HTW := Lib.hid (hnew)
    have HTWt := Lib.hid HTW.out.bt
    have HTWw := Lib.hid HTW.out.bw
    have kt0 := HTWt.out.cell 0
    have kt1 := HTWt.out.cell 1
    have kt2 := HTWt.out.cell 2
    have kt3 := HTWt.out.cell 3
    have kt4 := HTWt.out.cell 4
    have kt5 := HTWt.out.cell 5
    have kt6 := HTWt.out.cell 6
    have kt7 := HTWt.out.cell 7
    have kt8 := HTWt.out.cell 8
    have kt9 := HTWt.out.cell 9
    have kt10 := HTWt.out.cell 10
    have kt11 := HTWt.out.cell 11
    have kt12 := HTWt.out.cell 12
    have kt13 := HTWt.out.cell 13
    have kt14 := HTWt.out.cell 14
    simp only [tabC, List.getElem?_cons_zero, List.getElem?_cons_succ] at kt0 kt1 kt2 kt3 kt4 kt5 kt6 kt7 kt8 kt9 kt10 kt11 kt12 kt13 kt14
    have b0 := HTWw.out.cell 0
    have b1 := HTWw.out.cell 1
    have b2 := HTWw.out.cell 2
    have b3 := HTWw.out.cell 3
    have b4 := HTWw.out.cell 4
    have b5 := HTWw.out.cell 5
    have b6 := HTWw.out.cell 6
    have b7 := HTWw.out.cell 7
    have b8 := HTWw.out.cell 8
    have b9 := HTWw.out.cell 9
    have bA := HTWw.out.cell 10
    have bB := HTWw.out.cell 11
    have bC := HTWw.out.cell 12
    simp only [worldC, List.getElem?_cons_zero, List.getElem?_cons_succ] at b0 b1 b2 b3 b4 b5 b6 b7 b8 b9 bA bB bC
    have hlt0 : w.heap.size < wr.heap.size := HTW.out.bt.lt
    have hlt1 : w.heap.size + 1 < wr.heap.size := HTW.out.bw.lt
    by_cases hlt : i < t.th.length
    · have gp := HP1.out i hlt _ HTW.out.bl
      obtain ⟨rm, hrm⟩ := HR.out i hlt
      have gr := hrm _ HTW.out.bl
      have hltq : i < q.l1 := by rw [HL1.out]; exact hlt
      generalize atW d.pa (i : Int) = v at gp
      rw [HAC.out] at kt8
      rw [HAP.out] at b1
      clear hrm
      cases rm with
      | false =>
        go_wp2_with fail
        go_roundw
        case rel => exact ⟨i + 1, by go_num, by omega, by omega, HTW⟩
        case measure => simp [intOf]; omega
      | true =>
        by_cases hv : v = 0
        · have qv : (v != 0) = false := by simpa using hv
          go_wp2_with fail
          go_roundw
          case rel => exact ⟨i + 1, by go_num, by omega, by omega, HTW⟩
          case measure => simp [intOf]; omega
        · have qv : (v != 0) = true := by simpa using hv
          go_wp2_with fail
          go_ret
          exact OneW.f HTW.out.bl
    · obtain ⟨rm, hrm⟩ := HR.out k hk
      have gr := hrm _ HTW.out.bl
      have hblr : b < wr.heap.size := Nat.lt_of_lt_of_le hblt HTW.out.bl.size
      rw [HAC.out] at kt8
      clear hrm
      go_wp2_with fail
      refine region_text (fun w' => Below wr.heap.size wr w') (by kernel_rfl) (by kernel_rfl) ((Below.refl _ _).drew) (fun KK hKK => ?_)
      intro OPS
      try simp only [List.append]
      repeat (first
        | (refine' inText_val ?_ ?_ ?_ ?_
           rotate_left 2
           · rfl
           · (intro w' hS; obtain ⟨hcc, hff⟩ := bcell hS; go_simp; first | with_reducible rfl | (rw [if_neg (by omega)]; done) | (rw [if_neg (by omega)]; with_reducible rfl) | skip)
           · (simp only [Act.put, List.setIfInBounds_toArray, List.set_cons_zero, List.set_cons_succ]; with_reducible rfl))
        | (refine' inText_skip ?_ ?_ ?_
           rotate_left 1
           · rfl
           · (simp only [Act.put, List.setIfInBounds_toArray, List.set_cons_zero, List.set_cons_succ]; with_reducible rfl))
        | (refine' inText_call ?_ ?_ ?_ ?_ ?_
           rotate_left 4
           · rfl
           · (intro w' hS; obtain ⟨hcc, hff⟩ := bcell hS; go_simp; exact ⟨rfl, rfl⟩)
           · (intro w' hS
              (with_reducible refine (HCT.out w' (bl_then HTW.out.bl hS)).mono ?_); exact fun e w'' h => ⟨h.1, bl_then hS h.2⟩)
           · (simp only [Act.put, List.setIfInBounds_toArray, List.set_cons_zero, List.set_cons_succ]; with_reducible rfl)))
      refine inText_nil (hKK.out _ (fun w' hS => ?_))
      have HB9 := Lib.hid (bl_then HTW.out.bl hS)
      clear hS hKK
      clear kt0 kt1 kt2 kt3 kt4 kt5 kt6 kt7 kt8 kt9 kt10 kt11 kt12 kt13 kt14
      clear b0 b1 b2 b3 b4 b5 b6 b7 b8 b9 bA bB bC
      clear HTWt HTWw
      go_wp2_with fail
      go_ret
      exact ⟨_, rfl, fun _ => trivial, HB9.out⟩
end Go.Proofs.Ytjggklfegcejhaa
