/- Contract of clewref19.Right: what it lets through. -/
import Derived.Test.YtjggklfegcejhaaRef24
import Derived.Test.YtjggklfegcejhaaFits
namespace Go.Proofs.Ytjggklfegcejhaa
open Go.RowKit Go.PlainAid
set_option linter.unusedVariables false
set_option linter.unusedSimpArgs false

theorem ref19Nested (q : Wv) (d : WdC) (w : World) (hw : WIs w q d) (hnn : q.l1 ≤ 1000000) : Calls Try.prog 41 #[worldV q] w (OneW (NestOk q d) w) := by
  by_cases hz : q.l1 = 0 ∨ q.l2 ≠ q.l1 ∨ q.l3 ≠ q.l1
  · exact nestedBad q _ w (by rw [hw.pa.len]; exact hw.pa.few) (by rw [hw.ch.len]; exact hw.ch.few) (by rw [hw.nx.len]; exact hw.nx.few) hz
  · have h1 : q.l1 ≠ 0 := fun h => hz (.inl h)
    have h2 : q.l2 = q.l1 := Classical.byContradiction fun h => hz (.inr (.inl h))
    have h3 : q.l3 = q.l1 := Classical.byContradiction fun h => hz (.inr (.inr h))
    refine (nestedGood q d q.l1 w hw ⟨rfl, h2, h3, by unfold maxLen; omega⟩ (by omega) hnn).mono ?_
    rintro e w' ⟨b, rfl, hb, hB⟩
    exact ⟨b, rfl, fun h => ⟨by omega, h2, h3, (hb h).1, (hb h).2⟩, hB⟩
/-- A world that may be, of tables that may be. -/
structure RightOk (t : TbC) (q : Wv) (d : WdC) : Prop where
  h0 : q.l0 = t.gl.length
  h1 : q.l1 = t.th.length
  h4 : q.l4 = t.th.length
  h5 : q.l5 = t.th.length * t.pr.length
  h6 : q.l6 = t.da.length
  nest : NestOk q d
  gl : ∀ m ∈ d.gl, Val16 m
  pr : ∀ m ∈ d.pr, Val16 m
  fl : ∀ m ∈ d.fl, 0 ≤ m ∧ m ≤ bitsN t.fl - 1
  ti : ∀ m ∈ d.ti, 0 ≤ m ∧ m ≤ 32767
  sc : Val16 q.sc
  tu : 0 ≤ q.tu ∧ q.tu ≤ 2147483647
  ov : 0 ≤ q.ov ∧ q.ov ≤ 3
  it : 0 ≤ q.it ∧ q.it ≤ (t.th.length : Int) - 1
  go : 0 ≤ q.go ∧ q.go ≤ 12
theorem nat_ne {a b : Nat} (h : a ≠ b) : ((a : Int) != (b : Int)) = true := by simp; omega
theorem nat_eq {a b : Nat} (h : a = b) : ((a : Int) != (b : Int)) = false := by simp; omega
theorem nat_ne2 {a b c : Nat} (h : a ≠ b * c) : ((a : Int) != (b : Int) * (c : Int)) = true := by
  rw [show (b : Int) * (c : Int) = ((b * c : Nat) : Int) by simp]; exact nat_ne h
theorem nat_eq2 {a b c : Nat} (h : a = b * c) : ((a : Int) != (b : Int) * (c : Int)) = false := by
  rw [show (b : Int) * (c : Int) = ((b * c : Nat) : Int) by simp]; exact nat_eq h
set_option maxRecDepth 100000 in
set_option maxHeartbeats 80000000 in
theorem refRight (x : TAd) (t : TbC) (q : Wv) (d : WdC) (w : World) (ht : TabIs w x t) (hw : WRd w q d) (hf : FitsOk t) :
    Calls Try.prog 16 #[tabV x t, worldV q] w (OneW (RightOk t q d) w) := by
  have n3 := hf.th.len.1
  have n128 := hf.th.len.2
  have p16 := hf.he.pr
  have g64 := hf.he.gl
  have d16 := hf.ru.da
  have hnew := Two.new x t q w
  obtain ⟨W0, hW0⟩ : ∃ W0, (w.alloc (.cells (tabC x t).toArray 28)).alloc (.cells (worldC q).toArray 33) = W0 := ⟨_, rfl⟩
  rw [hW0] at hnew
  have HNE := Lib.hid (fun w' (hb : Below w.heap.size w w') (h : q.l1 ≤ 1000000) => ref19Nested q d w' (hw.is.below hb) h)
  have HPL := Lib.hid (fun w' (hb : Below w.heap.size w w') (hl : WLen q d t.th.length) => ref19placed x t q d w' (ht.below hb) (hw.is.below hb) hl (by omega))
  have hb1 := bitsN_pos t.fl
  have hb2 := bitsN_le t.fl
  have HR : Hid (q.l0 = t.gl.length → q.l1 = t.th.length → q.l4 = t.th.length → q.l5 = t.th.length * t.pr.length → q.l6 = t.da.length → NestOk q d → pB (∀ m ∈ d.gl, Val16 m) = true → pB (∀ m ∈ d.pr, Val16 m) = true → pB (∀ m ∈ d.fl, 0 ≤ m ∧ m ≤ bitsN t.fl - 1) = true → pB (∀ m ∈ d.ti, 0 ≤ m ∧ m ≤ 32767) = true → pB (Val16 q.sc) = true → pB (0 ≤ q.tu ∧ q.tu ≤ 2147483647) = true → pB (0 ≤ q.ov ∧ q.ov ≤ 3) = true → pB (0 ≤ q.it ∧ q.it ≤ (t.th.length : Int) - 1) = true → pB (0 ≤ q.go ∧ q.go ≤ 12) = true → RightOk t q d) :=
    Lib.hid (fun a b c e f g h i j k l m n o p => ⟨a, b, c, e, f, g, pB_iff.1 h, pB_iff.1 i, pB_iff.1 j, pB_iff.1 k, pB_iff.1 l, pB_iff.1 m, pB_iff.1 n, pB_iff.1 o, pB_iff.1 p⟩)
  have E0 := Lib.hid (fun w' (hb : Below w.heap.size w w') => (refValues _ d.gl w' (hw.gl.below hb)).mono fun e w'' h => h.val)
  have E1 := Lib.hid (fun w' (hb : Below w.heap.size w w') => (refValues _ d.pr w' (hw.pr.below hb)).mono fun e w'' h => h.val)
  have EB := Lib.hid (fun w' (hb : Below w.heap.size w w') => refBits t.fl w')
  have E2 := Lib.hid (fun w' (hb : Below w.heap.size w w') => (ref19all _ d.fl 0 (bitsN t.fl - 1) w' (hw.fl.below hb)).mono fun e w'' h => h.val)
  have E3 := Lib.hid (fun w' (hb : Below w.heap.size w w') => (ref19all _ d.ti 0 32767 w' (hw.ti.below hb)).mono fun e w'' h => h.val)
  have E4 := Lib.hid (fun w' (hb : Below w.heap.size w w') => (refIs q.sc w').mono fun e w'' h => h.val)
  have E5 := Lib.hid (fun w' (hb : Below w.heap.size w w') => (refFrom q.tu 0 2147483647 w').mono fun e w'' h => h.val)
  have F0 := Lib.hid (fun w' => (refFrom q.ov 0 3 w').mono fun e w'' h => h.val)
  have F1 := Lib.hid (fun w' => (refFrom q.it 0 ((t.th.length : Int) - 1) w').mono fun e w'' h => h.val)
  have F2 := Lib.hid (fun w' => (refFrom q.go 0 12 w').mono fun e w'' h => h.val)
  generalize pB (∀ m ∈ d.gl, Val16 m) = r0 at HR E0
  generalize pB (∀ m ∈ d.pr, Val16 m) = r1 at HR E1
  generalize pB (∀ m ∈ d.fl, 0 ≤ m ∧ m ≤ bitsN t.fl - 1) = r2 at HR E2
  generalize pB (∀ m ∈ d.ti, 0 ≤ m ∧ m ≤ 32767) = r3 at HR E3
  generalize pB (Val16 q.sc) = r4 at HR E4
  generalize pB (0 ≤ q.tu ∧ q.tu ≤ 2147483647) = r5 at HR E5
  generalize pB (0 ≤ q.ov ∧ q.ov ≤ 3) = s0 at HR F0
  generalize pB (0 ≤ q.it ∧ q.it ≤ (t.th.length : Int) - 1) = s1 at HR F1
  generalize pB (0 ≤ q.go ∧ q.go ≤ 12) = s2 at HR F2
  generalize bitsN t.fl = bz at EB E2 hb1 hb2
  have qb : IntKind.i64.wrap (bz - 1) = bz - 1 := IntWalk.i64_in _ (by omega)
  have qi : IntKind.i64.wrap ((t.th.length : Int) - 1) = (t.th.length : Int) - 1 := IntWalk.i64_in _ (by omega)
  have hmul : (t.th.length : Int) * (t.pr.length : Int) ≤ 128 * 16 := by
    have : t.th.length * t.pr.length ≤ 128 * 16 := Nat.mul_le_mul n128 p16
    exact_mod_cast this
  have hmul0 : 0 ≤ (t.th.length : Int) * (t.pr.length : Int) := Int.mul_nonneg (by omega) (by omega)
  have qm : IntKind.i64.wrap ((t.th.length : Int) * (t.pr.length : Int)) = (t.th.length : Int) * (t.pr.length : Int) := IntWalk.i64_in _ (by omega)
  clear ht hw hf hmul hmul0
  unfold tabV worldV at *
  go_enter Try.func16, Try.ntmps16
  unfold worldC at HNE HPL hW0 ⊢
  unfold tabC at HPL hW0 ⊢
  have HTW := Lib.hid (hnew)
  have HTWt := Lib.hid HTW.out.bt
  have HTWw := Lib.hid HTW.out.bw
  have kt0 := HTWt.out.cell 0
  have kt1 := HTWt.out.cell 1
  have kt2 := HTWt.out.cell 2
  have kt3 := HTWt.out.cell 3
  have kt4 := HTWt.out.cell 4
  have kt5 := HTWt.out.cell 5
  have kt6 := HTWt.out.cell 6
  have kt7 := HTWt.out.cell 7
  have kt8 := HTWt.out.cell 8
  have kt9 := HTWt.out.cell 9
  have kt10 := HTWt.out.cell 10
  have kt11 := HTWt.out.cell 11
  have kt12 := HTWt.out.cell 12
  have kt13 := HTWt.out.cell 13
  have kt14 := HTWt.out.cell 14
  simp only [tabC, List.getElem?_cons_zero, List.getElem?_cons_succ] at kt0 kt1 kt2 kt3 kt4 kt5 kt6 kt7 kt8 kt9 kt10 kt11 kt12 kt13 kt14
  have b0 := HTWw.out.cell 0
  have b1 := HTWw.out.cell 1
  have b2 := HTWw.out.cell 2
  have b3 := HTWw.out.cell 3
  have b4 := HTWw.out.cell 4
  have b5 := HTWw.out.cell 5
  have b6 := HTWw.out.cell 6
  have b7 := HTWw.out.cell 7
  have b8 := HTWw.out.cell 8
  have b9 := HTWw.out.cell 9
  have bA := HTWw.out.cell 10
  have bB := HTWw.out.cell 11
  have bC := HTWw.out.cell 12
  simp only [worldC, List.getElem?_cons_zero, List.getElem?_cons_succ] at b0 b1 b2 b3 b4 b5 b6 b7 b8 b9 bA bB bC
  clear hnew
  by_cases z0 : q.l0 = t.gl.length
  · have qz0 := nat_eq z0
    have Hz0 := Lib.hid z0
    clear z0
    by_cases z1 : q.l1 = t.th.length
    · have qz1 := nat_eq z1
      have Hz1 := Lib.hid z1
      clear z1
      by_cases z4 : q.l4 = t.th.length
      · have qz4 := nat_eq z4
        have Hz4 := Lib.hid z4
        clear z4
        by_cases z5 : q.l5 = t.th.length * t.pr.length
        · have qz5 := nat_eq2 z5
          have Hz5 := Lib.hid z5
          clear z5
          by_cases z6 : q.l6 = t.da.length
          · have qz6 := nat_eq z6
            have Hz6 := Lib.hid z6
            clear z6
            go_wp2_with fail
            clear hW0
            refine (HNE.out _ HTW.out.bl (by rw [Hz1.out]; omega)).mono ?_
            rintro e w2 ⟨bn, rfl, hbn, hB2⟩
            have HBN := Lib.hid hbn
            have hnew := HTW.out.below hB2
            clear hbn hB2
            clear kt0 kt1 kt2 kt3 kt4 kt5 kt6 kt7 kt8 kt9 kt10 kt11 kt12 kt13 kt14
            clear b0 b1 b2 b3 b4 b5 b6 b7 b8 b9 bA bB bC
            clear HTWt HTWw
            clear HTW HNE
            have HTW := Lib.hid (hnew)
            have HTWt := Lib.hid HTW.out.bt
            have HTWw := Lib.hid HTW.out.bw
            have kt0 := HTWt.out.cell 0
            have kt1 := HTWt.out.cell 1
            have kt2 := HTWt.out.cell 2
            have kt3 := HTWt.out.cell 3
            have kt4 := HTWt.out.cell 4
            have kt5 := HTWt.out.cell 5
            have kt6 := HTWt.out.cell 6
            have kt7 := HTWt.out.cell 7
            have kt8 := HTWt.out.cell 8
            have kt9 := HTWt.out.cell 9
            have kt10 := HTWt.out.cell 10
            have kt11 := HTWt.out.cell 11
            have kt12 := HTWt.out.cell 12
            have kt13 := HTWt.out.cell 13
            have kt14 := HTWt.out.cell 14
            simp only [tabC, List.getElem?_cons_zero, List.getElem?_cons_succ] at kt0 kt1 kt2 kt3 kt4 kt5 kt6 kt7 kt8 kt9 kt10 kt11 kt12 kt13 kt14
            have b0 := HTWw.out.cell 0
            have b1 := HTWw.out.cell 1
            have b2 := HTWw.out.cell 2
            have b3 := HTWw.out.cell 3
            have b4 := HTWw.out.cell 4
            have b5 := HTWw.out.cell 5
            have b6 := HTWw.out.cell 6
            have b7 := HTWw.out.cell 7
            have b8 := HTWw.out.cell 8
            have b9 := HTWw.out.cell 9
            have bA := HTWw.out.cell 10
            have bB := HTWw.out.cell 11
            have bC := HTWw.out.cell 12
            simp only [worldC, List.getElem?_cons_zero, List.getElem?_cons_succ] at b0 b1 b2 b3 b4 b5 b6 b7 b8 b9 bA bB bC
            clear hnew
            cases bn with
            | false =>
              go_wp2_with fail
              go_ret
              exact OneW.f HTW.out.bl
            | true =>
              have HNO := Lib.hid (HBN.out rfl)
              have G0 := Lib.hid (fun w' (hb : Below w2.heap.size w2 w') => E0.out w' (bl_then HTW.out.bl hb))
              have G1 := Lib.hid (fun w' (hb : Below w2.heap.size w2 w') => E1.out w' (bl_then HTW.out.bl hb))
              have GB := Lib.hid (fun w' (hb : Below w2.heap.size w2 w') => EB.out w' (bl_then HTW.out.bl hb))
              have G2 := Lib.hid (fun w' (hb : Below w2.heap.size w2 w') => E2.out w' (bl_then HTW.out.bl hb))
              have G3 := Lib.hid (fun w' (hb : Below w2.heap.size w2 w') => E3.out w' (bl_then HTW.out.bl hb))
              have G4 := Lib.hid (fun w' (hb : Below w2.heap.size w2 w') => E4.out w' (bl_then HTW.out.bl hb))
              have G5 := Lib.hid (fun w' (hb : Below w2.heap.size w2 w') => E5.out w' (bl_then HTW.out.bl hb))
              clear E0 E1 EB E2 E3 E4 E5
              have hlt0 : w.heap.size < w2.heap.size := HTW.out.bt.lt
              have hlt1 : w.heap.size + 1 < w2.heap.size := HTW.out.bw.lt
              cases r0 with
              | false =>
                go_wp2_with fail
                refine region_text (fun w' => Below w2.heap.size w2 w') (by kernel_rfl) (by kernel_rfl) ((Below.refl _ _).drew) (fun KK hKK => ?_)
                intro OPS
                try simp only [List.append]
                repeat (first
                  | (refine' inText_val ?_ ?_ ?_ ?_
                     rotate_left 2
                     · rfl
                     · (intro w' hS; obtain ⟨hcc, hff⟩ := bcell hS; go_simp; first | with_reducible rfl | (rw [if_neg (by omega)]; done) | (rw [if_neg (by omega)]; with_reducible rfl) | skip)
                     · (simp only [Act.put, List.setIfInBounds_toArray, List.set_cons_zero, List.set_cons_succ]; with_reducible rfl))
                  | (refine' inText_skip ?_ ?_ ?_
                     rotate_left 1
                     · rfl
                     · (simp only [Act.put, List.setIfInBounds_toArray, List.set_cons_zero, List.set_cons_succ]; with_reducible rfl))
                  | (refine' inText_call ?_ ?_ ?_ ?_ ?_
                     rotate_left 4
                     · rfl
                     · (intro w' hS; obtain ⟨hcc, hff⟩ := bcell hS; go_simp; exact ⟨rfl, rfl⟩)
                     · (intro w' hS
                        first
                          | ((with_reducible refine (G0.out w' hS).mono ?_); exact fun e w'' h => ⟨h.1, by rw [← h.2]; exact hS⟩)
                          | ((with_reducible refine (G1.out w' hS).mono ?_); exact fun e w'' h => ⟨h.1, by rw [← h.2]; exact hS⟩)
                          | ((with_reducible refine (GB.out w' hS).mono ?_); exact fun e w'' h => ⟨h.1, by rw [← h.2]; exact hS⟩)
                          | ((with_reducible refine (G2.out w' hS).mono ?_); exact fun e w'' h => ⟨h.1, by rw [← h.2]; exact hS⟩)
                          | ((with_reducible refine (G3.out w' hS).mono ?_); exact fun e w'' h => ⟨h.1, by rw [← h.2]; exact hS⟩)
                          | ((with_reducible refine (G4.out w' hS).mono ?_); exact fun e w'' h => ⟨h.1, by rw [← h.2]; exact hS⟩)
                          | ((with_reducible refine (G5.out w' hS).mono ?_); exact fun e w'' h => ⟨h.1, by rw [← h.2]; exact hS⟩))
                     · (simp only [Act.put, List.setIfInBounds_toArray, List.set_cons_zero, List.set_cons_succ]; with_reducible rfl)))
                refine inText_nil (hKK.out _ (fun w3 hS => ?_))
                have hnew := HTW.out.below hS
                clear hS hKK G0 G1 GB G2 G3 G4 G5
                clear kt0 kt1 kt2 kt3 kt4 kt5 kt6 kt7 kt8 kt9 kt10 kt11 kt12 kt13 kt14
                clear b0 b1 b2 b3 b4 b5 b6 b7 b8 b9 bA bB bC
                clear HTWt HTWw
                clear HTW
                have HTW := Lib.hid (hnew)
                have HTWt := Lib.hid HTW.out.bt
                have HTWw := Lib.hid HTW.out.bw
                have kt0 := HTWt.out.cell 0
                have kt1 := HTWt.out.cell 1
                have kt2 := HTWt.out.cell 2
                have kt3 := HTWt.out.cell 3
                have kt4 := HTWt.out.cell 4
                have kt5 := HTWt.out.cell 5
                have kt6 := HTWt.out.cell 6
                have kt7 := HTWt.out.cell 7
                have kt8 := HTWt.out.cell 8
                have kt9 := HTWt.out.cell 9
                have kt10 := HTWt.out.cell 10
                have kt11 := HTWt.out.cell 11
                have kt12 := HTWt.out.cell 12
                have kt13 := HTWt.out.cell 13
                have kt14 := HTWt.out.cell 14
                simp only [tabC, List.getElem?_cons_zero, List.getElem?_cons_succ] at kt0 kt1 kt2 kt3 kt4 kt5 kt6 kt7 kt8 kt9 kt10 kt11 kt12 kt13 kt14
                have b0 := HTWw.out.cell 0
                have b1 := HTWw.out.cell 1
                have b2 := HTWw.out.cell 2
                have b3 := HTWw.out.cell 3
                have b4 := HTWw.out.cell 4
                have b5 := HTWw.out.cell 5
                have b6 := HTWw.out.cell 6
                have b7 := HTWw.out.cell 7
                have b8 := HTWw.out.cell 8
                have b9 := HTWw.out.cell 9
                have bA := HTWw.out.cell 10
                have bB := HTWw.out.cell 11
                have bC := HTWw.out.cell 12
                simp only [worldC, List.getElem?_cons_zero, List.getElem?_cons_succ] at b0 b1 b2 b3 b4 b5 b6 b7 b8 b9 bA bB bC
                clear hnew
                go_wp2_with fail
                go_ret
                exact OneW.f HTW.out.bl
              | true =>
                cases r1 with
                | false =>
                  go_wp2_with fail
                  refine region_text (fun w' => Below w2.heap.size w2 w') (by kernel_rfl) (by kernel_rfl) ((Below.refl _ _).drew) (fun KK hKK => ?_)
                  intro OPS
                  try simp only [List.append]
                  repeat (first
                    | (refine' inText_val ?_ ?_ ?_ ?_
                       rotate_left 2
                       · rfl
                       · (intro w' hS; obtain ⟨hcc, hff⟩ := bcell hS; go_simp; first | with_reducible rfl | (rw [if_neg (by omega)]; done) | (rw [if_neg (by omega)]; with_reducible rfl) | skip)
                       · (simp only [Act.put, List.setIfInBounds_toArray, List.set_cons_zero, List.set_cons_succ]; with_reducible rfl))
                    | (refine' inText_skip ?_ ?_ ?_
                       rotate_left 1
                       · rfl
                       · (simp only [Act.put, List.setIfInBounds_toArray, List.set_cons_zero, List.set_cons_succ]; with_reducible rfl))
                    | (refine' inText_call ?_ ?_ ?_ ?_ ?_
                       rotate_left 4
                       · rfl
                       · (intro w' hS; obtain ⟨hcc, hff⟩ := bcell hS; go_simp; exact ⟨rfl, rfl⟩)
                       · (intro w' hS
                          first
                            | ((with_reducible refine (G0.out w' hS).mono ?_); exact fun e w'' h => ⟨h.1, by rw [← h.2]; exact hS⟩)
                            | ((with_reducible refine (G1.out w' hS).mono ?_); exact fun e w'' h => ⟨h.1, by rw [← h.2]; exact hS⟩)
                            | ((with_reducible refine (GB.out w' hS).mono ?_); exact fun e w'' h => ⟨h.1, by rw [← h.2]; exact hS⟩)
                            | ((with_reducible refine (G2.out w' hS).mono ?_); exact fun e w'' h => ⟨h.1, by rw [← h.2]; exact hS⟩)
                            | ((with_reducible refine (G3.out w' hS).mono ?_); exact fun e w'' h => ⟨h.1, by rw [← h.2]; exact hS⟩)
                            | ((with_reducible refine (G4.out w' hS).mono ?_); exact fun e w'' h => ⟨h.1, by rw [← h.2]; exact hS⟩)
                            | ((with_reducible refine (G5.out w' hS).mono ?_); exact fun e w'' h => ⟨h.1, by rw [← h.2]; exact hS⟩))
                       · (simp only [Act.put, List.setIfInBounds_toArray, List.set_cons_zero, List.set_cons_succ]; with_reducible rfl)))
                  refine inText_nil (hKK.out _ (fun w3 hS => ?_))
                  have hnew := HTW.out.below hS
                  clear hS hKK G0 G1 GB G2 G3 G4 G5
                  clear kt0 kt1 kt2 kt3 kt4 kt5 kt6 kt7 kt8 kt9 kt10 kt11 kt12 kt13 kt14
                  clear b0 b1 b2 b3 b4 b5 b6 b7 b8 b9 bA bB bC
                  clear HTWt HTWw
                  clear HTW
                  have HTW := Lib.hid (hnew)
                  have HTWt := Lib.hid HTW.out.bt
                  have HTWw := Lib.hid HTW.out.bw
                  have kt0 := HTWt.out.cell 0
                  have kt1 := HTWt.out.cell 1
                  have kt2 := HTWt.out.cell 2
                  have kt3 := HTWt.out.cell 3
                  have kt4 := HTWt.out.cell 4
                  have kt5 := HTWt.out.cell 5
                  have kt6 := HTWt.out.cell 6
                  have kt7 := HTWt.out.cell 7
                  have kt8 := HTWt.out.cell 8
                  have kt9 := HTWt.out.cell 9
                  have kt10 := HTWt.out.cell 10
                  have kt11 := HTWt.out.cell 11
                  have kt12 := HTWt.out.cell 12
                  have kt13 := HTWt.out.cell 13
                  have kt14 := HTWt.out.cell 14
                  simp only [tabC, List.getElem?_cons_zero, List.getElem?_cons_succ] at kt0 kt1 kt2 kt3 kt4 kt5 kt6 kt7 kt8 kt9 kt10 kt11 kt12 kt13 kt14
                  have b0 := HTWw.out.cell 0
                  have b1 := HTWw.out.cell 1
                  have b2 := HTWw.out.cell 2
                  have b3 := HTWw.out.cell 3
                  have b4 := HTWw.out.cell 4
                  have b5 := HTWw.out.cell 5
                  have b6 := HTWw.out.cell 6
                  have b7 := HTWw.out.cell 7
                  have b8 := HTWw.out.cell 8
                  have b9 := HTWw.out.cell 9
                  have bA := HTWw.out.cell 10
                  have bB := HTWw.out.cell 11
                  have bC := HTWw.out.cell 12
                  simp only [worldC, List.getElem?_cons_zero, List.getElem?_cons_succ] at b0 b1 b2 b3 b4 b5 b6 b7 b8 b9 bA bB bC
                  clear hnew
                  go_wp2_with fail
                  go_ret
                  exact OneW.f HTW.out.bl
                | true =>
                  cases r2 with
                  | false =>
                    go_wp2_with fail
                    refine region_text (fun w' => Below w2.heap.size w2 w') (by kernel_rfl) (by kernel_rfl) ((Below.refl _ _).drew) (fun KK hKK => ?_)
                    intro OPS
                    try simp only [List.append]
                    repeat (first
                      | (refine' inText_val ?_ ?_ ?_ ?_
                         rotate_left 2
                         · rfl
                         · (intro w' hS; obtain ⟨hcc, hff⟩ := bcell hS; go_simp; first | with_reducible rfl | (rw [if_neg (by omega)]; done) | (rw [if_neg (by omega)]; with_reducible rfl) | skip)
                         · (simp only [Act.put, List.setIfInBounds_toArray, List.set_cons_zero, List.set_cons_succ]; with_reducible rfl))
                      | (refine' inText_skip ?_ ?_ ?_
                         rotate_left 1
                         · rfl
                         · (simp only [Act.put, List.setIfInBounds_toArray, List.set_cons_zero, List.set_cons_succ]; with_reducible rfl))
                      | (refine' inText_call ?_ ?_ ?_ ?_ ?_
                         rotate_left 4
                         · rfl
                         · (intro w' hS; obtain ⟨hcc, hff⟩ := bcell hS; go_simp; exact ⟨rfl, rfl⟩)
                         · (intro w' hS
                            first
                              | ((with_reducible refine (G0.out w' hS).mono ?_); exact fun e w'' h => ⟨h.1, by rw [← h.2]; exact hS⟩)
                              | ((with_reducible refine (G1.out w' hS).mono ?_); exact fun e w'' h => ⟨h.1, by rw [← h.2]; exact hS⟩)
                              | ((with_reducible refine (GB.out w' hS).mono ?_); exact fun e w'' h => ⟨h.1, by rw [← h.2]; exact hS⟩)
                              | ((with_reducible refine (G2.out w' hS).mono ?_); exact fun e w'' h => ⟨h.1, by rw [← h.2]; exact hS⟩)
                              | ((with_reducible refine (G3.out w' hS).mono ?_); exact fun e w'' h => ⟨h.1, by rw [← h.2]; exact hS⟩)
                              | ((with_reducible refine (G4.out w' hS).mono ?_); exact fun e w'' h => ⟨h.1, by rw [← h.2]; exact hS⟩)
                              | ((with_reducible refine (G5.out w' hS).mono ?_); exact fun e w'' h => ⟨h.1, by rw [← h.2]; exact hS⟩))
                         · (simp only [Act.put, List.setIfInBounds_toArray, List.set_cons_zero, List.set_cons_succ]; with_reducible rfl)))
                    refine inText_nil (hKK.out _ (fun w3 hS => ?_))
                    have hnew := HTW.out.below hS
                    clear hS hKK G0 G1 GB G2 G3 G4 G5
                    clear kt0 kt1 kt2 kt3 kt4 kt5 kt6 kt7 kt8 kt9 kt10 kt11 kt12 kt13 kt14
                    clear b0 b1 b2 b3 b4 b5 b6 b7 b8 b9 bA bB bC
                    clear HTWt HTWw
                    clear HTW
                    have HTW := Lib.hid (hnew)
                    have HTWt := Lib.hid HTW.out.bt
                    have HTWw := Lib.hid HTW.out.bw
                    have kt0 := HTWt.out.cell 0
                    have kt1 := HTWt.out.cell 1
                    have kt2 := HTWt.out.cell 2
                    have kt3 := HTWt.out.cell 3
                    have kt4 := HTWt.out.cell 4
                    have kt5 := HTWt.out.cell 5
                    have kt6 := HTWt.out.cell 6
                    have kt7 := HTWt.out.cell 7
                    have kt8 := HTWt.out.cell 8
                    have kt9 := HTWt.out.cell 9
                    have kt10 := HTWt.out.cell 10
                    have kt11 := HTWt.out.cell 11
                    have kt12 := HTWt.out.cell 12
                    have kt13 := HTWt.out.cell 13
                    have kt14 := HTWt.out.cell 14
                    simp only [tabC, List.getElem?_cons_zero, List.getElem?_cons_succ] at kt0 kt1 kt2 kt3 kt4 kt5 kt6 kt7 kt8 kt9 kt10 kt11 kt12 kt13 kt14
                    have b0 := HTWw.out.cell 0
                    have b1 := HTWw.out.cell 1
                    have b2 := HTWw.out.cell 2
                    have b3 := HTWw.out.cell 3
                    have b4 := HTWw.out.cell 4
                    have b5 := HTWw.out.cell 5
                    have b6 := HTWw.out.cell 6
                    have b7 := HTWw.out.cell 7
                    have b8 := HTWw.out.cell 8
                    have b9 := HTWw.out.cell 9
                    have bA := HTWw.out.cell 10
                    have bB := HTWw.out.cell 11
                    have bC := HTWw.out.cell 12
                    simp only [worldC, List.getElem?_cons_zero, List.getElem?_cons_succ] at b0 b1 b2 b3 b4 b5 b6 b7 b8 b9 bA bB bC
                    clear hnew
                    go_wp2_with fail
                    go_ret
                    exact OneW.f HTW.out.bl
                  | true =>
                    cases r3 with
                    | false =>
                      go_wp2_with fail
                      refine region_text (fun w' => Below w2.heap.size w2 w') (by kernel_rfl) (by kernel_rfl) ((Below.refl _ _).drew) (fun KK hKK => ?_)
                      intro OPS
                      try simp only [List.append]
                      repeat (first
                        | (refine' inText_val ?_ ?_ ?_ ?_
                           rotate_left 2
                           · rfl
                           · (intro w' hS; obtain ⟨hcc, hff⟩ := bcell hS; go_simp; first | with_reducible rfl | (rw [if_neg (by omega)]; done) | (rw [if_neg (by omega)]; with_reducible rfl) | skip)
                           · (simp only [Act.put, List.setIfInBounds_toArray, List.set_cons_zero, List.set_cons_succ]; with_reducible rfl))
                        | (refine' inText_skip ?_ ?_ ?_
                           rotate_left 1
                           · rfl
                           · (simp only [Act.put, List.setIfInBounds_toArray, List.set_cons_zero, List.set_cons_succ]; with_reducible rfl))
                        | (refine' inText_call ?_ ?_ ?_ ?_ ?_
                           rotate_left 4
                           · rfl
                           · (intro w' hS; obtain ⟨hcc, hff⟩ := bcell hS; go_simp; exact ⟨rfl, rfl⟩)
                           · (intro w' hS
                              first
                                | ((with_reducible refine (G0.out w' hS).mono ?_); exact fun e w'' h => ⟨h.1, by rw [← h.2]; exact hS⟩)
                                | ((with_reducible refine (G1.out w' hS).mono ?_); exact fun e w'' h => ⟨h.1, by rw [← h.2]; exact hS⟩)
                                | ((with_reducible refine (GB.out w' hS).mono ?_); exact fun e w'' h => ⟨h.1, by rw [← h.2]; exact hS⟩)
                                | ((with_reducible refine (G2.out w' hS).mono ?_); exact fun e w'' h => ⟨h.1, by rw [← h.2]; exact hS⟩)
                                | ((with_reducible refine (G3.out w' hS).mono ?_); exact fun e w'' h => ⟨h.1, by rw [← h.2]; exact hS⟩)
                                | ((with_reducible refine (G4.out w' hS).mono ?_); exact fun e w'' h => ⟨h.1, by rw [← h.2]; exact hS⟩)
                                | ((with_reducible refine (G5.out w' hS).mono ?_); exact fun e w'' h => ⟨h.1, by rw [← h.2]; exact hS⟩))
                           · (simp only [Act.put, List.setIfInBounds_toArray, List.set_cons_zero, List.set_cons_succ]; with_reducible rfl)))
                      refine inText_nil (hKK.out _ (fun w3 hS => ?_))
                      have hnew := HTW.out.below hS
                      clear hS hKK G0 G1 GB G2 G3 G4 G5
                      clear kt0 kt1 kt2 kt3 kt4 kt5 kt6 kt7 kt8 kt9 kt10 kt11 kt12 kt13 kt14
                      clear b0 b1 b2 b3 b4 b5 b6 b7 b8 b9 bA bB bC
                      clear HTWt HTWw
                      clear HTW
                      have HTW := Lib.hid (hnew)
                      have HTWt := Lib.hid HTW.out.bt
                      have HTWw := Lib.hid HTW.out.bw
                      have kt0 := HTWt.out.cell 0
                      have kt1 := HTWt.out.cell 1
                      have kt2 := HTWt.out.cell 2
                      have kt3 := HTWt.out.cell 3
                      have kt4 := HTWt.out.cell 4
                      have kt5 := HTWt.out.cell 5
                      have kt6 := HTWt.out.cell 6
                      have kt7 := HTWt.out.cell 7
                      have kt8 := HTWt.out.cell 8
                      have kt9 := HTWt.out.cell 9
                      have kt10 := HTWt.out.cell 10
                      have kt11 := HTWt.out.cell 11
                      have kt12 := HTWt.out.cell 12
                      have kt13 := HTWt.out.cell 13
                      have kt14 := HTWt.out.cell 14
                      simp only [tabC, List.getElem?_cons_zero, List.getElem?_cons_succ] at kt0 kt1 kt2 kt3 kt4 kt5 kt6 kt7 kt8 kt9 kt10 kt11 kt12 kt13 kt14
                      have b0 := HTWw.out.cell 0
                      have b1 := HTWw.out.cell 1
                      have b2 := HTWw.out.cell 2
                      have b3 := HTWw.out.cell 3
                      have b4 := HTWw.out.cell 4
                      have b5 := HTWw.out.cell 5
                      have b6 := HTWw.out.cell 6
                      have b7 := HTWw.out.cell 7
                      have b8 := HTWw.out.cell 8
                      have b9 := HTWw.out.cell 9
                      have bA := HTWw.out.cell 10
                      have bB := HTWw.out.cell 11
                      have bC := HTWw.out.cell 12
                      simp only [worldC, List.getElem?_cons_zero, List.getElem?_cons_succ] at b0 b1 b2 b3 b4 b5 b6 b7 b8 b9 bA bB bC
                      clear hnew
                      go_wp2_with fail
                      go_ret
                      exact OneW.f HTW.out.bl
                    | true =>
                      cases r4 with
                      | false =>
                        go_wp2_with fail
                        refine region_text (fun w' => Below w2.heap.size w2 w') (by kernel_rfl) (by kernel_rfl) ((Below.refl _ _).drew) (fun KK hKK => ?_)
                        intro OPS
                        try simp only [List.append]
                        repeat (first
                          | (refine' inText_val ?_ ?_ ?_ ?_
                             rotate_left 2
                             · rfl
                             · (intro w' hS; obtain ⟨hcc, hff⟩ := bcell hS; go_simp; first | with_reducible rfl | (rw [if_neg (by omega)]; done) | (rw [if_neg (by omega)]; with_reducible rfl) | skip)
                             · (simp only [Act.put, List.setIfInBounds_toArray, List.set_cons_zero, List.set_cons_succ]; with_reducible rfl))
                          | (refine' inText_skip ?_ ?_ ?_
                             rotate_left 1
                             · rfl
                             · (simp only [Act.put, List.setIfInBounds_toArray, List.set_cons_zero, List.set_cons_succ]; with_reducible rfl))
                          | (refine' inText_call ?_ ?_ ?_ ?_ ?_
                             rotate_left 4
                             · rfl
                             · (intro w' hS; obtain ⟨hcc, hff⟩ := bcell hS; go_simp; exact ⟨rfl, rfl⟩)
                             · (intro w' hS
                                first
                                  | ((with_reducible refine (G0.out w' hS).mono ?_); exact fun e w'' h => ⟨h.1, by rw [← h.2]; exact hS⟩)
                                  | ((with_reducible refine (G1.out w' hS).mono ?_); exact fun e w'' h => ⟨h.1, by rw [← h.2]; exact hS⟩)
                                  | ((with_reducible refine (GB.out w' hS).mono ?_); exact fun e w'' h => ⟨h.1, by rw [← h.2]; exact hS⟩)
                                  | ((with_reducible refine (G2.out w' hS).mono ?_); exact fun e w'' h => ⟨h.1, by rw [← h.2]; exact hS⟩)
                                  | ((with_reducible refine (G3.out w' hS).mono ?_); exact fun e w'' h => ⟨h.1, by rw [← h.2]; exact hS⟩)
                                  | ((with_reducible refine (G4.out w' hS).mono ?_); exact fun e w'' h => ⟨h.1, by rw [← h.2]; exact hS⟩)
                                  | ((with_reducible refine (G5.out w' hS).mono ?_); exact fun e w'' h => ⟨h.1, by rw [← h.2]; exact hS⟩))
                             · (simp only [Act.put, List.setIfInBounds_toArray, List.set_cons_zero, List.set_cons_succ]; with_reducible rfl)))
                        refine inText_nil (hKK.out _ (fun w3 hS => ?_))
                        have hnew := HTW.out.below hS
                        clear hS hKK G0 G1 GB G2 G3 G4 G5
                        clear kt0 kt1 kt2 kt3 kt4 kt5 kt6 kt7 kt8 kt9 kt10 kt11 kt12 kt13 kt14
                        clear b0 b1 b2 b3 b4 b5 b6 b7 b8 b9 bA bB bC
                        clear HTWt HTWw
                        clear HTW
                        have HTW := Lib.hid (hnew)
                        have HTWt := Lib.hid HTW.out.bt
                        have HTWw := Lib.hid HTW.out.bw
                        have kt0 := HTWt.out.cell 0
                        have kt1 := HTWt.out.cell 1
                        have kt2 := HTWt.out.cell 2
                        have kt3 := HTWt.out.cell 3
                        have kt4 := HTWt.out.cell 4
                        have kt5 := HTWt.out.cell 5
                        have kt6 := HTWt.out.cell 6
                        have kt7 := HTWt.out.cell 7
                        have kt8 := HTWt.out.cell 8
                        have kt9 := HTWt.out.cell 9
                        have kt10 := HTWt.out.cell 10
                        have kt11 := HTWt.out.cell 11
                        have kt12 := HTWt.out.cell 12
                        have kt13 := HTWt.out.cell 13
                        have kt14 := HTWt.out.cell 14
                        simp only [tabC, List.getElem?_cons_zero, List.getElem?_cons_succ] at kt0 kt1 kt2 kt3 kt4 kt5 kt6 kt7 kt8 kt9 kt10 kt11 kt12 kt13 kt14
                        have b0 := HTWw.out.cell 0
                        have b1 := HTWw.out.cell 1
                        have b2 := HTWw.out.cell 2
                        have b3 := HTWw.out.cell 3
                        have b4 := HTWw.out.cell 4
                        have b5 := HTWw.out.cell 5
                        have b6 := HTWw.out.cell 6
                        have b7 := HTWw.out.cell 7
                        have b8 := HTWw.out.cell 8
                        have b9 := HTWw.out.cell 9
                        have bA := HTWw.out.cell 10
                        have bB := HTWw.out.cell 11
                        have bC := HTWw.out.cell 12
                        simp only [worldC, List.getElem?_cons_zero, List.getElem?_cons_succ] at b0 b1 b2 b3 b4 b5 b6 b7 b8 b9 bA bB bC
                        clear hnew
                        go_wp2_with fail
                        go_ret
                        exact OneW.f HTW.out.bl
                      | true =>
                        cases r5 with
                        | false =>
                          go_wp2_with fail
                          refine region_text (fun w' => Below w2.heap.size w2 w') (by kernel_rfl) (by kernel_rfl) ((Below.refl _ _).drew) (fun KK hKK => ?_)
                          intro OPS
                          try simp only [List.append]
                          repeat (first
                            | (refine' inText_val ?_ ?_ ?_ ?_
                               rotate_left 2
                               · rfl
                               · (intro w' hS; obtain ⟨hcc, hff⟩ := bcell hS; go_simp; first | with_reducible rfl | (rw [if_neg (by omega)]; done) | (rw [if_neg (by omega)]; with_reducible rfl) | skip)
                               · (simp only [Act.put, List.setIfInBounds_toArray, List.set_cons_zero, List.set_cons_succ]; with_reducible rfl))
                            | (refine' inText_skip ?_ ?_ ?_
                               rotate_left 1
                               · rfl
                               · (simp only [Act.put, List.setIfInBounds_toArray, List.set_cons_zero, List.set_cons_succ]; with_reducible rfl))
                            | (refine' inText_call ?_ ?_ ?_ ?_ ?_
                               rotate_left 4
                               · rfl
                               · (intro w' hS; obtain ⟨hcc, hff⟩ := bcell hS; go_simp; exact ⟨rfl, rfl⟩)
                               · (intro w' hS
                                  first
                                    | ((with_reducible refine (G0.out w' hS).mono ?_); exact fun e w'' h => ⟨h.1, by rw [← h.2]; exact hS⟩)
                                    | ((with_reducible refine (G1.out w' hS).mono ?_); exact fun e w'' h => ⟨h.1, by rw [← h.2]; exact hS⟩)
                                    | ((with_reducible refine (GB.out w' hS).mono ?_); exact fun e w'' h => ⟨h.1, by rw [← h.2]; exact hS⟩)
                                    | ((with_reducible refine (G2.out w' hS).mono ?_); exact fun e w'' h => ⟨h.1, by rw [← h.2]; exact hS⟩)
                                    | ((with_reducible refine (G3.out w' hS).mono ?_); exact fun e w'' h => ⟨h.1, by rw [← h.2]; exact hS⟩)
                                    | ((with_reducible refine (G4.out w' hS).mono ?_); exact fun e w'' h => ⟨h.1, by rw [← h.2]; exact hS⟩)
                                    | ((with_reducible refine (G5.out w' hS).mono ?_); exact fun e w'' h => ⟨h.1, by rw [← h.2]; exact hS⟩))
                               · (simp only [Act.put, List.setIfInBounds_toArray, List.set_cons_zero, List.set_cons_succ]; with_reducible rfl)))
                          refine inText_nil (hKK.out _ (fun w3 hS => ?_))
                          have hnew := HTW.out.below hS
                          clear hS hKK G0 G1 GB G2 G3 G4 G5
                          clear kt0 kt1 kt2 kt3 kt4 kt5 kt6 kt7 kt8 kt9 kt10 kt11 kt12 kt13 kt14
                          clear b0 b1 b2 b3 b4 b5 b6 b7 b8 b9 bA bB bC
                          clear HTWt HTWw
                          clear HTW
                          have HTW := Lib.hid (hnew)
                          have HTWt := Lib.hid HTW.out.bt
                          have HTWw := Lib.hid HTW.out.bw
                          have kt0 := HTWt.out.cell 0
                          have kt1 := HTWt.out.cell 1
                          have kt2 := HTWt.out.cell 2
                          have kt3 := HTWt.out.cell 3
                          have kt4 := HTWt.out.cell 4
                          have kt5 := HTWt.out.cell 5
                          have kt6 := HTWt.out.cell 6
                          have kt7 := HTWt.out.cell 7
                          have kt8 := HTWt.out.cell 8
                          have kt9 := HTWt.out.cell 9
                          have kt10 := HTWt.out.cell 10
                          have kt11 := HTWt.out.cell 11
                          have kt12 := HTWt.out.cell 12
                          have kt13 := HTWt.out.cell 13
                          have kt14 := HTWt.out.cell 14
                          simp only [tabC, List.getElem?_cons_zero, List.getElem?_cons_succ] at kt0 kt1 kt2 kt3 kt4 kt5 kt6 kt7 kt8 kt9 kt10 kt11 kt12 kt13 kt14
                          have b0 := HTWw.out.cell 0
                          have b1 := HTWw.out.cell 1
                          have b2 := HTWw.out.cell 2
                          have b3 := HTWw.out.cell 3
                          have b4 := HTWw.out.cell 4
                          have b5 := HTWw.out.cell 5
                          have b6 := HTWw.out.cell 6
                          have b7 := HTWw.out.cell 7
                          have b8 := HTWw.out.cell 8
                          have b9 := HTWw.out.cell 9
                          have bA := HTWw.out.cell 10
                          have bB := HTWw.out.cell 11
                          have bC := HTWw.out.cell 12
                          simp only [worldC, List.getElem?_cons_zero, List.getElem?_cons_succ] at b0 b1 b2 b3 b4 b5 b6 b7 b8 b9 bA bB bC
                          clear hnew
                          go_wp2_with fail
                          go_ret
                          exact OneW.f HTW.out.bl
                        | true =>
                          go_wp2_with fail
                          refine region_text (fun w' => Below w2.heap.size w2 w') (by kernel_rfl) (by kernel_rfl) ((Below.refl _ _).drew) (fun KK hKK => ?_)
                          intro OPS
                          try simp only [List.append]
                          repeat (first
                            | (refine' inText_val ?_ ?_ ?_ ?_
                               rotate_left 2
                               · rfl
                               · (intro w' hS; obtain ⟨hcc, hff⟩ := bcell hS; go_simp; first | with_reducible rfl | (rw [if_neg (by omega)]; done) | (rw [if_neg (by omega)]; with_reducible rfl) | skip)
                               · (simp only [Act.put, List.setIfInBounds_toArray, List.set_cons_zero, List.set_cons_succ]; with_reducible rfl))
                            | (refine' inText_skip ?_ ?_ ?_
                               rotate_left 1
                               · rfl
                               · (simp only [Act.put, List.setIfInBounds_toArray, List.set_cons_zero, List.set_cons_succ]; with_reducible rfl))
                            | (refine' inText_call ?_ ?_ ?_ ?_ ?_
                               rotate_left 4
                               · rfl
                               · (intro w' hS; obtain ⟨hcc, hff⟩ := bcell hS; go_simp; exact ⟨rfl, rfl⟩)
                               · (intro w' hS
                                  first
                                    | ((with_reducible refine (G0.out w' hS).mono ?_); exact fun e w'' h => ⟨h.1, by rw [← h.2]; exact hS⟩)
                                    | ((with_reducible refine (G1.out w' hS).mono ?_); exact fun e w'' h => ⟨h.1, by rw [← h.2]; exact hS⟩)
                                    | ((with_reducible refine (GB.out w' hS).mono ?_); exact fun e w'' h => ⟨h.1, by rw [← h.2]; exact hS⟩)
                                    | ((with_reducible refine (G2.out w' hS).mono ?_); exact fun e w'' h => ⟨h.1, by rw [← h.2]; exact hS⟩)
                                    | ((with_reducible refine (G3.out w' hS).mono ?_); exact fun e w'' h => ⟨h.1, by rw [← h.2]; exact hS⟩)
                                    | ((with_reducible refine (G4.out w' hS).mono ?_); exact fun e w'' h => ⟨h.1, by rw [← h.2]; exact hS⟩)
                                    | ((with_reducible refine (G5.out w' hS).mono ?_); exact fun e w'' h => ⟨h.1, by rw [← h.2]; exact hS⟩))
                               · (simp only [Act.put, List.setIfInBounds_toArray, List.set_cons_zero, List.set_cons_succ]; with_reducible rfl)))
                          refine inText_nil (hKK.out _ (fun w3 hS => ?_))
                          have hnew := HTW.out.below hS
                          clear hS hKK G0 G1 GB G2 G3 G4 G5
                          clear kt0 kt1 kt2 kt3 kt4 kt5 kt6 kt7 kt8 kt9 kt10 kt11 kt12 kt13 kt14
                          clear b0 b1 b2 b3 b4 b5 b6 b7 b8 b9 bA bB bC
                          clear HTWt HTWw
                          clear HTW
                          have HTW := Lib.hid (hnew)
                          have HTWt := Lib.hid HTW.out.bt
                          have HTWw := Lib.hid HTW.out.bw
                          have kt0 := HTWt.out.cell 0
                          have kt1 := HTWt.out.cell 1
                          have kt2 := HTWt.out.cell 2
                          have kt3 := HTWt.out.cell 3
                          have kt4 := HTWt.out.cell 4
                          have kt5 := HTWt.out.cell 5
                          have kt6 := HTWt.out.cell 6
                          have kt7 := HTWt.out.cell 7
                          have kt8 := HTWt.out.cell 8
                          have kt9 := HTWt.out.cell 9
                          have kt10 := HTWt.out.cell 10
                          have kt11 := HTWt.out.cell 11
                          have kt12 := HTWt.out.cell 12
                          have kt13 := HTWt.out.cell 13
                          have kt14 := HTWt.out.cell 14
                          simp only [tabC, List.getElem?_cons_zero, List.getElem?_cons_succ] at kt0 kt1 kt2 kt3 kt4 kt5 kt6 kt7 kt8 kt9 kt10 kt11 kt12 kt13 kt14
                          have b0 := HTWw.out.cell 0
                          have b1 := HTWw.out.cell 1
                          have b2 := HTWw.out.cell 2
                          have b3 := HTWw.out.cell 3
                          have b4 := HTWw.out.cell 4
                          have b5 := HTWw.out.cell 5
                          have b6 := HTWw.out.cell 6
                          have b7 := HTWw.out.cell 7
                          have b8 := HTWw.out.cell 8
                          have b9 := HTWw.out.cell 9
                          have bA := HTWw.out.cell 10
                          have bB := HTWw.out.cell 11
                          have bC := HTWw.out.cell 12
                          simp only [worldC, List.getElem?_cons_zero, List.getElem?_cons_succ] at b0 b1 b2 b3 b4 b5 b6 b7 b8 b9 bA bB bC
                          clear hnew
                          cases s0 with
                          | false =>
                            go_wp2_with (first
                              | (go_at_call 29; (with_reducible refine (F0.out _).mono ?_); rintro e w' ⟨rfl, rfl⟩))
                            go_ret
                            exact OneW.f HTW.out.bl
                          | true =>
                            cases s1 with
                            | false =>
                              go_wp2_with (first
                                | (go_at_call 29; (with_reducible refine (F0.out _).mono ?_); rintro e w' ⟨rfl, rfl⟩)
                                | (go_at_call 29; (with_reducible refine (F1.out _).mono ?_); rintro e w' ⟨rfl, rfl⟩))
                              go_ret
                              exact OneW.f HTW.out.bl
                            | true =>
                              cases s2 with
                              | false =>
                                go_wp2_with (first
                                  | (go_at_call 29; (with_reducible refine (F0.out _).mono ?_); rintro e w' ⟨rfl, rfl⟩)
                                  | (go_at_call 29; (with_reducible refine (F1.out _).mono ?_); rintro e w' ⟨rfl, rfl⟩)
                                  | (go_at_call 29; (with_reducible refine (F2.out _).mono ?_); rintro e w' ⟨rfl, rfl⟩))
                                go_ret
                                exact OneW.f HTW.out.bl
                              | true =>
                                go_wp2_with (first
                                  | (go_at_call 29; (with_reducible refine (F0.out _).mono ?_); rintro e w' ⟨rfl, rfl⟩)
                                  | (go_at_call 29; (with_reducible refine (F1.out _).mono ?_); rintro e w' ⟨rfl, rfl⟩)
                                  | (go_at_call 29; (with_reducible refine (F2.out _).mono ?_); rintro e w' ⟨rfl, rfl⟩))
                                have HWL : WLen q d t.th.length := ⟨Hz1.out, by rw [HNO.out.h2, Hz1.out], by rw [HNO.out.h3, Hz1.out], by unfold maxLen; omega⟩
                                refine (HPL.out _ HTW.out.bl HWL).mono ?_
                                rintro e w4 ⟨bp, rfl, _, hB4⟩
                                have HB4 := Lib.hid (bl_then HTW.out.bl hB4)
                                clear hB4 HWL
                                clear kt0 kt1 kt2 kt3 kt4 kt5 kt6 kt7 kt8 kt9 kt10 kt11 kt12 kt13 kt14
                                clear b0 b1 b2 b3 b4 b5 b6 b7 b8 b9 bA bB bC
                                clear HTWt HTWw
                                go_wp2_with fail
                                go_ret
                                exact ⟨_, rfl, fun _ => HR.out Hz0.out Hz1.out Hz4.out Hz5.out Hz6.out HNO.out (by trivial) (by trivial) (by trivial) (by trivial) (by trivial) (by trivial) (by trivial) (by trivial) (by trivial), HB4.out⟩
          · have qz6 := nat_ne z6
            clear z6
            go_wp2_with fail
            go_ret
            exact OneW.f HTW.out.bl
        · have qz5 := nat_ne2 z5
          clear z5
          go_wp2_with fail
          go_ret
          exact OneW.f HTW.out.bl
      · have qz4 := nat_ne z4
        clear z4
        go_wp2_with fail
        go_ret
        exact OneW.f HTW.out.bl
    · have qz1 := nat_ne z1
      clear z1
      go_wp2_with fail
      go_ret
      exact OneW.f HTW.out.bl
  · have qz0 := nat_ne z0
    clear z0
    go_wp2_with fail
    go_ret
    exact OneW.f HTW.out.bl
end Go.Proofs.Ytjggklfegcejhaa
