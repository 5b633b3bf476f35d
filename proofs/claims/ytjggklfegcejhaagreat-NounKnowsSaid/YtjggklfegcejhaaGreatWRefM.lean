/- Contracts of clewref19's all and placed.; Contract of clewref19.Right: what it lets through.; A world that may be, of an argument.; What is reached is no more than there is; contracts of clewref23's has, shows, Here.; Contract of clewref23.reached. -/
import Derived.Test.YtjggklfegcejhaaGreatRef23
import Derived.Test.YtjggklfegcejhaaGreatTwo
import Derived.Test.YtjggklfegcejhaaGreatFitsC
import Derived.Test.YtjggklfegcejhaaGreatFitsM
import Derived.Test.YtjggklfegcejhaaGreatHas
import Derived.Test.YtjggklfegcejhaaGreatRef21
import Derived.Test.YtjggklfegcejhaaGreatAnyM
import Derived.Laws.AppendOwnNone
namespace Go.Proofs.YtjggklfegcejhaaGreat
open Go.RowKit Go.PlainAid
set_option linter.unusedVariables false
set_option linter.unusedSimpArgs false

theorem Reads.rowI {w : World} {v : Value} {l : List Int} (h : Reads Cd.is w v l) : RowI w v l := by
  obtain ⟨a, cap, rfl, h1, h2⟩ := h.q.len
  refine ⟨a, cap, rfl, h2, h1, fun i hi => ?_⟩
  obtain ⟨b, off, cap', g1, g2, g3, g4⟩ := h.q.open (by omega)
  obtain ⟨row, r1, ⟨r2, r4⟩, r3⟩ := g4 i hi
  subst r2
  have := r3 0 (by decide)
  rw [show Cd.i.k = 1 from rfl, Nat.mul_one, Nat.add_zero] at this
  simp only [Value.slice.injEq] at g1
  exact ⟨b, off, g1.1, g3, this, r4⟩
/-- A world that came in. -/
structure WRd (w : World) (q : Wv) (d : WdC) : Prop where
  gl : Reads Cd.is w (.slice q.a0 q.l0 q.c0) d.gl
  pa : Reads Cd.is w (.slice q.a1 q.l1 q.c1) d.pa
  ch : Reads Cd.is w (.slice q.a2 q.l2 q.c2) d.ch
  nx : Reads Cd.is w (.slice q.a3 q.l3 q.c3) d.nx
  fl : Reads Cd.is w (.slice q.a4 q.l4 q.c4) d.fl
  pr : Reads Cd.is w (.slice q.a5 q.l5 q.c5) d.pr
  ti : Reads Cd.is w (.slice q.a6 q.l6 q.c6) d.ti
  (i1 : I64 q.sc) (i2 : I64 q.tu) (i3 : I64 q.ov) (i4 : I64 q.it) (i5 : I64 q.go)
theorem WRd.below {w w' : World} {q : Wv} {d : WdC} (h : WRd w q d) (hb : Below w.heap.size w w') : WRd w' q d :=
  ⟨h.gl.below hb, h.pa.below hb, h.ch.below hb, h.nx.below hb, h.fl.below hb, h.pr.below hb, h.ti.below hb, h.i1, h.i2, h.i3, h.i4, h.i5⟩
theorem WRd.is {w : World} {q : Wv} {d : WdC} (h : WRd w q d) : WIs w q d :=
  ⟨h.gl.rowI, h.pa.rowI, h.ch.rowI, h.nx.rowI, h.fl.rowI, h.pr.rowI, h.ti.rowI, h.i1, h.i2, h.i3, h.i4, h.i5⟩
set_option maxRecDepth 100000 in
theorem ref19all (v : Value) (l : List Int) (lo hi : Int) (w : World) (hv : Reads Cd.is w v l) : Calls Tryz.prog 53 #[v, .int .i64 lo, .int .i64 hi] w (IffB (∀ n ∈ l, (lo ≤ n ∧ n ≤ hi)) w) := by
  obtain ⟨a0, c0, hv0, hc0, hm0⟩ := hv.q.len
  subst hv0
  unfold maxLen at hm0
  have HV := Lib.hid hv
  clear hv
  go_enter Tryz.func53, Tryz.ntmps53
  go_wp2
  go_loop [7] (fun i => ∃ (p : Nat), i = .int .i64 p ∧ p ≤ l.length ∧ Hid (∀ n ∈ l.take p, (lo ≤ n ∧ n ≤ hi))) (fun i => l.length - (intOf i).toNat)
  case atStart => exact ⟨0, rfl, Nat.zero_le _, Lib.hid (fun n h => by simp at h)⟩
  case round =>
    obtain ⟨p, rfl, hpl, HI⟩ := hrel
    by_cases hlt : p < l.length
    · obtain ⟨b, off, cap, hv, hcap, hblt, hcell⟩ := int_open HV.out (by omega)
      have hac : a0 = some ⟨b, off, none⟩ := by simp at hv; exact hv.1
      subst hac
      have e0 := hcell p hlt
      have HM := Lib.hid (List.getElem_mem hlt)
      have HT : Hid ((lo ≤ l[p] ∧ l[p] ≤ hi) → ∀ x ∈ l.take (p + 1), (lo ≤ x ∧ x ≤ hi)) := Lib.hid (take_all hlt HI.out)
      generalize l[p] = n at e0 HM HT
      clear hcell hv
      go_wp2_with (go_at_call 56; refine (refFrom n lo hi _).mono ?_; rintro e w' ⟨b1, rfl, hb1, rfl⟩; have HB1 := Lib.hid hb1; clear hb1)
      · go_ret
        exact IffB.f fun h => by have := HB1.out.2 (h n HM.out); simp_all
      · go_round
        case rel => exact ⟨p + 1, by go_num, by omega, Lib.hid (HT.out (HB1.out.1 (by simp_all)))⟩
        case measure => simp [intOf]; omega
    · go_wp2
      go_ret
      exact IffB.t (take_full hlt HI.out)
set_option maxRecDepth 100000 in
set_option maxHeartbeats 8000000 in
theorem ref19placed (x : TAd) (t : TbC) (q : Wv) (d : WdC) (w : World) (ht : TabIs w x t) (hw : WIs w q d) (hl : WLen q d t.th.length) (h2 : 2 ≤ t.th.length) :
    Calls Tryz.prog 57 #[tabV x t, worldV q] w (OneW True w) := by
  have hnew := Two.new x t q w
  obtain ⟨W0, hW0⟩ : ∃ W0, (w.alloc (.cells (tabC x t).toArray 28)).alloc (.cells (worldC q).toArray 31) = W0 := ⟨_, rfl⟩
  rw [hW0] at hnew
  have hm := hl.few
  unfold maxLen at hm
  have hnum := hw.nums hl
  have HL1 := Lib.hid hl.h1
  have hlm : q.l1 ≤ 9223372036854775807 := by rw [HL1.out]; omega
  obtain ⟨bp, op, hap, hbp, hcp, _⟩ := hw.pa.at_ (i := 0) (by rw [hnum.1]; omega)
  have HP1 : Hid (∀ j (h : j < t.th.length), ∀ w', Below w.heap.size w w' → w'.cell? ⟨bp, op + j, none⟩ = some (.int .i64 (atW d.pa (j : Int)))) := Lib.hid (fun j h w' hb => by
    rw [hb.cell (p := ⟨bp, op + j, none⟩) hbp, hcp j (by rw [hnum.1]; exact h), atW_get (by rw [hnum.1]; exact h)]; rfl)
  have HCT := Lib.hid (fun w' (hb : Below w.heap.size w w') => ref19top q d 1 t.th.length w' (hw.below hb) hl)
  have htop := top_is (pa := d.pa) (n := t.th.length) (x := 1) (isW_spec.2 (by omega)) (by omega)
  generalize topOf d.pa t.th.length 1 = tp at HCT htop
  obtain ⟨k, rfl⟩ : ∃ k : Nat, tp = k := ⟨tp.toNat, by have := (isW_spec.1 htop).1; omega⟩
  have hk : k < t.th.length := by have := (isW_spec.1 htop).2; omega
  obtain ⟨b, off, cap, hv, hcap, hblt, hcell⟩ := th_open ht.th (by omega)
  have hac : x.a8 = some ⟨b, off, none⟩ := by simp at hv; exact hv.1
  have HR : Hid (∀ j, j < t.th.length → ∃ rm, ∀ w', Below w.heap.size w w' → w'.cell? ⟨b, off + j * 9 + 4, none⟩ = some (.bool rm)) := Lib.hid (fun j hj => by
    obtain ⟨r1, r2, r3, r4, hth, hrow⟩ := hcell j hj
    have e4 := hrow 4 (by decide)
    simp only [thRow, List.getElem?_cons_zero, List.getElem?_cons_succ] at e4
    exact ⟨_, fun w' hb => (hb.cell (p := ⟨b, off + j * 9 + 4, none⟩) hblt).trans e4⟩)
  have HAC := Lib.hid hac
  have HAP := Lib.hid hap
  clear ht hw hl htop hcell hcp hv hac hap
  unfold tabV worldV at *
  go_enter Tryz.func57, Tryz.ntmps57
  unfold worldC at HCT hW0 ⊢
  unfold tabC at hW0 ⊢
  go_wp2_with fail
  clear hW0
  have HN0 := Lib.hid hnew
  clear hnew
  go_loopw [5] (fun iv wr => ∃ (i : Nat), iv = .int .i64 i ∧ 1 ≤ i ∧ i ≤ t.th.length ∧ Hid (Two x t q w wr)) (fun iv _ => t.th.length - (intOf iv).toNat)
  case atStart => exact ⟨1, rfl, Nat.le_refl _, by omega, HN0⟩
  case round =>
    clear HN0
    obtain ⟨i, rfl, hi1, hil, hnew⟩ := hrel
    have hnew := hnew.out
    have HTW := Lib.hid (hnew)
    have HTWt := Lib.hid HTW.out.bt
    have HTWw := Lib.hid HTW.out.bw
    obtain ⟨kt0, kt1, kt2, kt3, kt4, kt5, kt6, kt7, kt8, kt9, kt10, kt11, kt12, kt13, kt14⟩ := tab15 (HTWt.out)
    obtain ⟨b0, b1, b2, b3, b4, b5, b6, b7, b8, b9, bA, bB, bC⟩ := wd13 (HTWw.out)
    have hlt0 : w.heap.size < wr.heap.size := HTW.out.bt.lt
    have hlt1 : w.heap.size + 1 < wr.heap.size := HTW.out.bw.lt
    by_cases hlt : i < t.th.length
    · have gp := HP1.out i hlt _ HTW.out.bl
      obtain ⟨rm, hrm⟩ := HR.out i hlt
      have gr := hrm _ HTW.out.bl
      have hltq : i < q.l1 := by rw [HL1.out]; exact hlt
      generalize atW d.pa (i : Int) = v at gp
      rw [HAC.out] at kt8
      rw [HAP.out] at b1
      clear hrm
      cases rm with
      | false =>
        go_wp2_with fail
        go_roundw
        case rel => exact ⟨i + 1, by go_num, by omega, by omega, HTW⟩
        case measure => simp [intOf]; omega
      | true =>
        by_cases hv : v = 0
        · have qv : (v != 0) = false := by simpa using hv
          go_wp2_with fail
          go_roundw
          case rel => exact ⟨i + 1, by go_num, by omega, by omega, HTW⟩
          case measure => simp [intOf]; omega
        · have qv : (v != 0) = true := by simpa using hv
          go_wp2_with fail
          go_ret
          exact OneW.f HTW.out.bl
    · obtain ⟨rm, hrm⟩ := HR.out k hk
      have gr := hrm _ HTW.out.bl
      have hblr : b < wr.heap.size := Nat.lt_of_lt_of_le hblt HTW.out.bl.size
      rw [HAC.out] at kt8
      clear hrm
      go_wp2_with fail
      refine region_text (fun w' => Below wr.heap.size wr w') (by kernel_rfl) (by kernel_rfl) ((Below.refl _ _).drew) (fun KK hKK => ?_)
      intro OPS
      try simp only [List.append]
      repeat (first
        | (refine' inText_val ?_ ?_ ?_ ?_
           rotate_left 2
           · rfl
           · (intro w' hS; obtain ⟨hcc, hff⟩ := bcell hS; go_simp; first | with_reducible rfl | (rw [if_neg (by omega)]; done) | (rw [if_neg (by omega)]; with_reducible rfl) | skip)
           · (simp only [Act.put, List.setIfInBounds_toArray, List.set_cons_zero, List.set_cons_succ]; with_reducible rfl))
        | (refine' inText_skip ?_ ?_ ?_
           rotate_left 1
           · rfl
           · (simp only [Act.put, List.setIfInBounds_toArray, List.set_cons_zero, List.set_cons_succ]; with_reducible rfl))
        | (refine' inText_call ?_ ?_ ?_ ?_ ?_
           rotate_left 4
           · rfl
           · (intro w' hS; obtain ⟨hcc, hff⟩ := bcell hS; go_simp; exact ⟨rfl, rfl⟩)
           · (intro w' hS
              (with_reducible refine (HCT.out w' (bl_then HTW.out.bl hS)).mono ?_); exact fun e w'' h => ⟨h.1, bl_then hS h.2⟩)
           · (simp only [Act.put, List.setIfInBounds_toArray, List.set_cons_zero, List.set_cons_succ]; with_reducible rfl)))
      refine inText_nil (hKK.out _ (fun w' hS => ?_))
      have HB9 := Lib.hid (bl_then HTW.out.bl hS)
      clear hS hKK
      clear kt0 kt1 kt2 kt3 kt4 kt5 kt6 kt7 kt8 kt9 kt10 kt11 kt12 kt13 kt14
      clear b0 b1 b2 b3 b4 b5 b6 b7 b8 b9 bA bB bC
      clear HTWt HTWw
      go_wp2_with fail
      go_ret
      exact ⟨_, rfl, fun _ => trivial, HB9.out⟩
end Go.Proofs.YtjggklfegcejhaaGreat
namespace Go.Proofs.YtjggklfegcejhaaGreat
open Go.RowKit Go.PlainAid
set_option linter.unusedVariables false
set_option linter.unusedSimpArgs false

theorem ref19Nested (q : Wv) (d : WdC) (w : World) (hw : WIs w q d) (hnn : q.l1 ≤ 1000000) : Calls Tryz.prog 51 #[worldV q] w (OneW (NestOk q d) w) := by
  by_cases hz : q.l1 = 0 ∨ q.l2 ≠ q.l1 ∨ q.l3 ≠ q.l1
  · exact nestedBad q _ w (by rw [hw.pa.len]; exact hw.pa.few) (by rw [hw.ch.len]; exact hw.ch.few) (by rw [hw.nx.len]; exact hw.nx.few) hz
  · have h1 : q.l1 ≠ 0 := fun h => hz (.inl h)
    have h2 : q.l2 = q.l1 := Classical.byContradiction fun h => hz (.inr (.inl h))
    have h3 : q.l3 = q.l1 := Classical.byContradiction fun h => hz (.inr (.inr h))
    refine (nestedGood q d q.l1 w hw ⟨rfl, h2, h3, by unfold maxLen; omega⟩ (by omega) hnn).mono ?_
    rintro e w' ⟨b, rfl, hb, hB⟩
    exact ⟨b, rfl, fun h => ⟨by omega, h2, h3, (hb h).1, (hb h).2⟩, hB⟩
/-- A world that may be, of tables that may be. -/
structure RightOk (t : TbC) (q : Wv) (d : WdC) : Prop where
  h0 : q.l0 = t.gl.length
  h1 : q.l1 = t.th.length
  h4 : q.l4 = t.th.length
  h5 : q.l5 = t.th.length * t.pr.length
  h6 : q.l6 = t.da.length
  nest : NestOk q d
  gl : ∀ m ∈ d.gl, Val16 m
  pr : ∀ m ∈ d.pr, Val16 m
  fl : ∀ m ∈ d.fl, 0 ≤ m ∧ m ≤ bitsN t.fl - 1
  ti : ∀ m ∈ d.ti, 0 ≤ m ∧ m ≤ 32767
  sc : Val16 q.sc
  tu : 0 ≤ q.tu ∧ q.tu ≤ 2147483647
  ov : 0 ≤ q.ov ∧ q.ov ≤ 3
  it : 0 ≤ q.it ∧ q.it ≤ (t.th.length : Int) - 1
  go : 0 ≤ q.go ∧ q.go ≤ 12
theorem nat_ne {a b : Nat} (h : a ≠ b) : ((a : Int) != (b : Int)) = true := by simp; omega
theorem nat_eq {a b : Nat} (h : a = b) : ((a : Int) != (b : Int)) = false := by simp; omega
theorem nat_ne2 {a b c : Nat} (h : a ≠ b * c) : ((a : Int) != (b : Int) * (c : Int)) = true := by
  rw [show (b : Int) * (c : Int) = ((b * c : Nat) : Int) by simp]; exact nat_ne h
theorem nat_eq2 {a b c : Nat} (h : a = b * c) : ((a : Int) != (b : Int) * (c : Int)) = false := by
  rw [show (b : Int) * (c : Int) = ((b * c : Nat) : Int) by simp]; exact nat_eq h
set_option maxRecDepth 100000 in
set_option maxHeartbeats 80000000 in
theorem refRight (x : TAd) (t : TbC) (q : Wv) (d : WdC) (w : World) (ht : TabIs w x t) (hw : WRd w q d) (hf : FitsOk t) :
    Calls Tryz.prog 20 #[tabV x t, worldV q] w (OneW (RightOk t q d) w) := by
  have n3 := hf.th.len.1
  have n128 := hf.th.len.2
  have p16 := hf.he.pr
  have g64 := hf.he.gl
  have d16 := hf.ru.da
  have hnew := Two.new x t q w
  obtain ⟨W0, hW0⟩ : ∃ W0, (w.alloc (.cells (tabC x t).toArray 28)).alloc (.cells (worldC q).toArray 31) = W0 := ⟨_, rfl⟩
  rw [hW0] at hnew
  have HNE := Lib.hid (fun w' (hb : Below w.heap.size w w') (h : q.l1 ≤ 1000000) => ref19Nested q d w' (hw.is.below hb) h)
  have HPL := Lib.hid (fun w' (hb : Below w.heap.size w w') (hl : WLen q d t.th.length) => ref19placed x t q d w' (ht.below hb) (hw.is.below hb) hl (by omega))
  have hb1 := bitsN_pos t.fl
  have hb2 := bitsN_le t.fl
  have HR : Hid (q.l0 = t.gl.length → q.l1 = t.th.length → q.l4 = t.th.length → q.l5 = t.th.length * t.pr.length → q.l6 = t.da.length → NestOk q d → pB (∀ m ∈ d.gl, Val16 m) = true → pB (∀ m ∈ d.pr, Val16 m) = true → pB (∀ m ∈ d.fl, 0 ≤ m ∧ m ≤ bitsN t.fl - 1) = true → pB (∀ m ∈ d.ti, 0 ≤ m ∧ m ≤ 32767) = true → pB (Val16 q.sc) = true → pB (0 ≤ q.tu ∧ q.tu ≤ 2147483647) = true → pB (0 ≤ q.ov ∧ q.ov ≤ 3) = true → pB (0 ≤ q.it ∧ q.it ≤ (t.th.length : Int) - 1) = true → pB (0 ≤ q.go ∧ q.go ≤ 12) = true → RightOk t q d) :=
    Lib.hid (fun a b c e f g h i j k l m n o p => ⟨a, b, c, e, f, g, pB_iff.1 h, pB_iff.1 i, pB_iff.1 j, pB_iff.1 k, pB_iff.1 l, pB_iff.1 m, pB_iff.1 n, pB_iff.1 o, pB_iff.1 p⟩)
  have E0 := Lib.hid (fun w' (hb : Below w.heap.size w w') => (refValues _ d.gl w' (hw.gl.below hb)).mono fun e w'' h => h.val)
  have E1 := Lib.hid (fun w' (hb : Below w.heap.size w w') => (refValues _ d.pr w' (hw.pr.below hb)).mono fun e w'' h => h.val)
  have EB := Lib.hid (fun w' (hb : Below w.heap.size w w') => refBits t.fl w')
  have E2 := Lib.hid (fun w' (hb : Below w.heap.size w w') => (ref19all _ d.fl 0 (bitsN t.fl - 1) w' (hw.fl.below hb)).mono fun e w'' h => h.val)
  have E3 := Lib.hid (fun w' (hb : Below w.heap.size w w') => (ref19all _ d.ti 0 32767 w' (hw.ti.below hb)).mono fun e w'' h => h.val)
  have E4 := Lib.hid (fun w' (hb : Below w.heap.size w w') => (refIs q.sc w').mono fun e w'' h => h.val)
  have E5 := Lib.hid (fun w' (hb : Below w.heap.size w w') => (refFrom q.tu 0 2147483647 w').mono fun e w'' h => h.val)
  have F0 := Lib.hid (fun w' => (refFrom q.ov 0 3 w').mono fun e w'' h => h.val)
  have F1 := Lib.hid (fun w' => (refFrom q.it 0 ((t.th.length : Int) - 1) w').mono fun e w'' h => h.val)
  have F2 := Lib.hid (fun w' => (refFrom q.go 0 12 w').mono fun e w'' h => h.val)
  generalize pB (∀ m ∈ d.gl, Val16 m) = r0 at HR E0
  generalize pB (∀ m ∈ d.pr, Val16 m) = r1 at HR E1
  generalize pB (∀ m ∈ d.fl, 0 ≤ m ∧ m ≤ bitsN t.fl - 1) = r2 at HR E2
  generalize pB (∀ m ∈ d.ti, 0 ≤ m ∧ m ≤ 32767) = r3 at HR E3
  generalize pB (Val16 q.sc) = r4 at HR E4
  generalize pB (0 ≤ q.tu ∧ q.tu ≤ 2147483647) = r5 at HR E5
  generalize pB (0 ≤ q.ov ∧ q.ov ≤ 3) = s0 at HR F0
  generalize pB (0 ≤ q.it ∧ q.it ≤ (t.th.length : Int) - 1) = s1 at HR F1
  generalize pB (0 ≤ q.go ∧ q.go ≤ 12) = s2 at HR F2
  generalize bitsN t.fl = bz at EB E2 hb1 hb2
  have qb : IntKind.i64.wrap (bz - 1) = bz - 1 := IntWalk.i64_in _ (by omega)
  have qi : IntKind.i64.wrap ((t.th.length : Int) - 1) = (t.th.length : Int) - 1 := IntWalk.i64_in _ (by omega)
  have hmul : (t.th.length : Int) * (t.pr.length : Int) ≤ 128 * 16 := by
    have : t.th.length * t.pr.length ≤ 128 * 16 := Nat.mul_le_mul n128 p16
    exact_mod_cast this
  have hmul0 : 0 ≤ (t.th.length : Int) * (t.pr.length : Int) := Int.mul_nonneg (by omega) (by omega)
  have qm : IntKind.i64.wrap ((t.th.length : Int) * (t.pr.length : Int)) = (t.th.length : Int) * (t.pr.length : Int) := IntWalk.i64_in _ (by omega)
  clear ht hw hf hmul hmul0
  unfold tabV worldV at *
  go_enter Tryz.func20, Tryz.ntmps20
  unfold worldC at HNE HPL hW0 ⊢
  unfold tabC at HPL hW0 ⊢
  have HTW := Lib.hid (hnew)
  have HTWt := Lib.hid HTW.out.bt
  have HTWw := Lib.hid HTW.out.bw
  obtain ⟨kt0, kt1, kt2, kt3, kt4, kt5, kt6, kt7, kt8, kt9, kt10, kt11, kt12, kt13, kt14⟩ := tab15 (HTWt.out)
  obtain ⟨b0, b1, b2, b3, b4, b5, b6, b7, b8, b9, bA, bB, bC⟩ := wd13 (HTWw.out)
  clear hnew
  by_cases z0 : q.l0 = t.gl.length
  · have qz0 := nat_eq z0
    have Hz0 := Lib.hid z0
    clear z0
    by_cases z1 : q.l1 = t.th.length
    · have qz1 := nat_eq z1
      have Hz1 := Lib.hid z1
      clear z1
      by_cases z4 : q.l4 = t.th.length
      · have qz4 := nat_eq z4
        have Hz4 := Lib.hid z4
        clear z4
        by_cases z5 : q.l5 = t.th.length * t.pr.length
        · have qz5 := nat_eq2 z5
          have Hz5 := Lib.hid z5
          clear z5
          by_cases z6 : q.l6 = t.da.length
          · have qz6 := nat_eq z6
            have Hz6 := Lib.hid z6
            clear z6
            go_wp2_with fail
            clear hW0
            refine (HNE.out _ HTW.out.bl (by rw [Hz1.out]; omega)).mono ?_
            rintro e w2 ⟨bn, rfl, hbn, hB2⟩
            have HBN := Lib.hid hbn
            have hnew := HTW.out.below hB2
            clear hbn hB2
            clear kt0 kt1 kt2 kt3 kt4 kt5 kt6 kt7 kt8 kt9 kt10 kt11 kt12 kt13 kt14
            clear b0 b1 b2 b3 b4 b5 b6 b7 b8 b9 bA bB bC
            clear HTWt HTWw
            clear HTW HNE
            have HTW := Lib.hid (hnew)
            have HTWt := Lib.hid HTW.out.bt
            have HTWw := Lib.hid HTW.out.bw
            obtain ⟨kt0, kt1, kt2, kt3, kt4, kt5, kt6, kt7, kt8, kt9, kt10, kt11, kt12, kt13, kt14⟩ := tab15 (HTWt.out)
            obtain ⟨b0, b1, b2, b3, b4, b5, b6, b7, b8, b9, bA, bB, bC⟩ := wd13 (HTWw.out)
            clear hnew
            cases bn with
            | false =>
              go_wp2_with fail
              go_ret
              exact OneW.f HTW.out.bl
            | true =>
              have HNO := Lib.hid (HBN.out rfl)
              have G0 := Lib.hid (fun w' (hb : Below w2.heap.size w2 w') => E0.out w' (bl_then HTW.out.bl hb))
              have G1 := Lib.hid (fun w' (hb : Below w2.heap.size w2 w') => E1.out w' (bl_then HTW.out.bl hb))
              have GB := Lib.hid (fun w' (hb : Below w2.heap.size w2 w') => EB.out w' (bl_then HTW.out.bl hb))
              have G2 := Lib.hid (fun w' (hb : Below w2.heap.size w2 w') => E2.out w' (bl_then HTW.out.bl hb))
              have G3 := Lib.hid (fun w' (hb : Below w2.heap.size w2 w') => E3.out w' (bl_then HTW.out.bl hb))
              have G4 := Lib.hid (fun w' (hb : Below w2.heap.size w2 w') => E4.out w' (bl_then HTW.out.bl hb))
              have G5 := Lib.hid (fun w' (hb : Below w2.heap.size w2 w') => E5.out w' (bl_then HTW.out.bl hb))
              clear E0 E1 EB E2 E3 E4 E5
              have hlt0 : w.heap.size < w2.heap.size := HTW.out.bt.lt
              have hlt1 : w.heap.size + 1 < w2.heap.size := HTW.out.bw.lt
              cases r0 with
              | false =>
                go_wp2_with fail
                refine region_text (fun w' => Below w2.heap.size w2 w') (by kernel_rfl) (by kernel_rfl) ((Below.refl _ _).drew) (fun KK hKK => ?_)
                intro OPS
                try simp only [List.append]
                repeat (first
                  | (refine' inText_val ?_ ?_ ?_ ?_
                     rotate_left 2
                     · rfl
                     · (intro w' hS; obtain ⟨hcc, hff⟩ := bcell hS; go_simp; first | with_reducible rfl | (rw [if_neg (by omega)]; done) | (rw [if_neg (by omega)]; with_reducible rfl) | skip)
                     · (simp only [Act.put, List.setIfInBounds_toArray, List.set_cons_zero, List.set_cons_succ]; with_reducible rfl))
                  | (refine' inText_skip ?_ ?_ ?_
                     rotate_left 1
                     · rfl
                     · (simp only [Act.put, List.setIfInBounds_toArray, List.set_cons_zero, List.set_cons_succ]; with_reducible rfl))
                  | (refine' inText_call ?_ ?_ ?_ ?_ ?_
                     rotate_left 4
                     · rfl
                     · (intro w' hS; obtain ⟨hcc, hff⟩ := bcell hS; go_simp; exact ⟨rfl, rfl⟩)
                     · (intro w' hS
                        first
                          | ((with_reducible refine (G0.out w' hS).mono ?_); exact fun e w'' h => ⟨h.1, by rw [← h.2]; exact hS⟩)
                          | ((with_reducible refine (G1.out w' hS).mono ?_); exact fun e w'' h => ⟨h.1, by rw [← h.2]; exact hS⟩)
                          | ((with_reducible refine (GB.out w' hS).mono ?_); exact fun e w'' h => ⟨h.1, by rw [← h.2]; exact hS⟩)
                          | ((with_reducible refine (G2.out w' hS).mono ?_); exact fun e w'' h => ⟨h.1, by rw [← h.2]; exact hS⟩)
                          | ((with_reducible refine (G3.out w' hS).mono ?_); exact fun e w'' h => ⟨h.1, by rw [← h.2]; exact hS⟩)
                          | ((with_reducible refine (G4.out w' hS).mono ?_); exact fun e w'' h => ⟨h.1, by rw [← h.2]; exact hS⟩)
                          | ((with_reducible refine (G5.out w' hS).mono ?_); exact fun e w'' h => ⟨h.1, by rw [← h.2]; exact hS⟩))
                     · (simp only [Act.put, List.setIfInBounds_toArray, List.set_cons_zero, List.set_cons_succ]; with_reducible rfl)))
                refine inText_nil (hKK.out _ (fun w3 hS => ?_))
                have hnew := HTW.out.below hS
                clear hS hKK G0 G1 GB G2 G3 G4 G5
                clear kt0 kt1 kt2 kt3 kt4 kt5 kt6 kt7 kt8 kt9 kt10 kt11 kt12 kt13 kt14
                clear b0 b1 b2 b3 b4 b5 b6 b7 b8 b9 bA bB bC
                clear HTWt HTWw
                clear HTW
                have HTW := Lib.hid (hnew)
                have HTWt := Lib.hid HTW.out.bt
                have HTWw := Lib.hid HTW.out.bw
                obtain ⟨kt0, kt1, kt2, kt3, kt4, kt5, kt6, kt7, kt8, kt9, kt10, kt11, kt12, kt13, kt14⟩ := tab15 (HTWt.out)
                obtain ⟨b0, b1, b2, b3, b4, b5, b6, b7, b8, b9, bA, bB, bC⟩ := wd13 (HTWw.out)
                clear hnew
                go_wp2_with fail
                go_ret
                exact OneW.f HTW.out.bl
              | true =>
                cases r1 with
                | false =>
                  go_wp2_with fail
                  refine region_text (fun w' => Below w2.heap.size w2 w') (by kernel_rfl) (by kernel_rfl) ((Below.refl _ _).drew) (fun KK hKK => ?_)
                  intro OPS
                  try simp only [List.append]
                  repeat (first
                    | (refine' inText_val ?_ ?_ ?_ ?_
                       rotate_left 2
                       · rfl
                       · (intro w' hS; obtain ⟨hcc, hff⟩ := bcell hS; go_simp; first | with_reducible rfl | (rw [if_neg (by omega)]; done) | (rw [if_neg (by omega)]; with_reducible rfl) | skip)
                       · (simp only [Act.put, List.setIfInBounds_toArray, List.set_cons_zero, List.set_cons_succ]; with_reducible rfl))
                    | (refine' inText_skip ?_ ?_ ?_
                       rotate_left 1
                       · rfl
                       · (simp only [Act.put, List.setIfInBounds_toArray, List.set_cons_zero, List.set_cons_succ]; with_reducible rfl))
                    | (refine' inText_call ?_ ?_ ?_ ?_ ?_
                       rotate_left 4
                       · rfl
                       · (intro w' hS; obtain ⟨hcc, hff⟩ := bcell hS; go_simp; exact ⟨rfl, rfl⟩)
                       · (intro w' hS
                          first
                            | ((with_reducible refine (G0.out w' hS).mono ?_); exact fun e w'' h => ⟨h.1, by rw [← h.2]; exact hS⟩)
                            | ((with_reducible refine (G1.out w' hS).mono ?_); exact fun e w'' h => ⟨h.1, by rw [← h.2]; exact hS⟩)
                            | ((with_reducible refine (GB.out w' hS).mono ?_); exact fun e w'' h => ⟨h.1, by rw [← h.2]; exact hS⟩)
                            | ((with_reducible refine (G2.out w' hS).mono ?_); exact fun e w'' h => ⟨h.1, by rw [← h.2]; exact hS⟩)
                            | ((with_reducible refine (G3.out w' hS).mono ?_); exact fun e w'' h => ⟨h.1, by rw [← h.2]; exact hS⟩)
                            | ((with_reducible refine (G4.out w' hS).mono ?_); exact fun e w'' h => ⟨h.1, by rw [← h.2]; exact hS⟩)
                            | ((with_reducible refine (G5.out w' hS).mono ?_); exact fun e w'' h => ⟨h.1, by rw [← h.2]; exact hS⟩))
                       · (simp only [Act.put, List.setIfInBounds_toArray, List.set_cons_zero, List.set_cons_succ]; with_reducible rfl)))
                  refine inText_nil (hKK.out _ (fun w3 hS => ?_))
                  have hnew := HTW.out.below hS
                  clear hS hKK G0 G1 GB G2 G3 G4 G5
                  clear kt0 kt1 kt2 kt3 kt4 kt5 kt6 kt7 kt8 kt9 kt10 kt11 kt12 kt13 kt14
                  clear b0 b1 b2 b3 b4 b5 b6 b7 b8 b9 bA bB bC
                  clear HTWt HTWw
                  clear HTW
                  have HTW := Lib.hid (hnew)
                  have HTWt := Lib.hid HTW.out.bt
                  have HTWw := Lib.hid HTW.out.bw
                  obtain ⟨kt0, kt1, kt2, kt3, kt4, kt5, kt6, kt7, kt8, kt9, kt10, kt11, kt12, kt13, kt14⟩ := tab15 (HTWt.out)
                  obtain ⟨b0, b1, b2, b3, b4, b5, b6, b7, b8, b9, bA, bB, bC⟩ := wd13 (HTWw.out)
                  clear hnew
                  go_wp2_with fail
                  go_ret
                  exact OneW.f HTW.out.bl
                | true =>
                  cases r2 with
                  | false =>
                    go_wp2_with fail
                    refine region_text (fun w' => Below w2.heap.size w2 w') (by kernel_rfl) (by kernel_rfl) ((Below.refl _ _).drew) (fun KK hKK => ?_)
                    intro OPS
                    try simp only [List.append]
                    repeat (first
                      | (refine' inText_val ?_ ?_ ?_ ?_
                         rotate_left 2
                         · rfl
                         · (intro w' hS; obtain ⟨hcc, hff⟩ := bcell hS; go_simp; first | with_reducible rfl | (rw [if_neg (by omega)]; done) | (rw [if_neg (by omega)]; with_reducible rfl) | skip)
                         · (simp only [Act.put, List.setIfInBounds_toArray, List.set_cons_zero, List.set_cons_succ]; with_reducible rfl))
                      | (refine' inText_skip ?_ ?_ ?_
                         rotate_left 1
                         · rfl
                         · (simp only [Act.put, List.setIfInBounds_toArray, List.set_cons_zero, List.set_cons_succ]; with_reducible rfl))
                      | (refine' inText_call ?_ ?_ ?_ ?_ ?_
                         rotate_left 4
                         · rfl
                         · (intro w' hS; obtain ⟨hcc, hff⟩ := bcell hS; go_simp; exact ⟨rfl, rfl⟩)
                         · (intro w' hS
                            first
                              | ((with_reducible refine (G0.out w' hS).mono ?_); exact fun e w'' h => ⟨h.1, by rw [← h.2]; exact hS⟩)
                              | ((with_reducible refine (G1.out w' hS).mono ?_); exact fun e w'' h => ⟨h.1, by rw [← h.2]; exact hS⟩)
                              | ((with_reducible refine (GB.out w' hS).mono ?_); exact fun e w'' h => ⟨h.1, by rw [← h.2]; exact hS⟩)
                              | ((with_reducible refine (G2.out w' hS).mono ?_); exact fun e w'' h => ⟨h.1, by rw [← h.2]; exact hS⟩)
                              | ((with_reducible refine (G3.out w' hS).mono ?_); exact fun e w'' h => ⟨h.1, by rw [← h.2]; exact hS⟩)
                              | ((with_reducible refine (G4.out w' hS).mono ?_); exact fun e w'' h => ⟨h.1, by rw [← h.2]; exact hS⟩)
                              | ((with_reducible refine (G5.out w' hS).mono ?_); exact fun e w'' h => ⟨h.1, by rw [← h.2]; exact hS⟩))
                         · (simp only [Act.put, List.setIfInBounds_toArray, List.set_cons_zero, List.set_cons_succ]; with_reducible rfl)))
                    refine inText_nil (hKK.out _ (fun w3 hS => ?_))
                    have hnew := HTW.out.below hS
                    clear hS hKK G0 G1 GB G2 G3 G4 G5
                    clear kt0 kt1 kt2 kt3 kt4 kt5 kt6 kt7 kt8 kt9 kt10 kt11 kt12 kt13 kt14
                    clear b0 b1 b2 b3 b4 b5 b6 b7 b8 b9 bA bB bC
                    clear HTWt HTWw
                    clear HTW
                    have HTW := Lib.hid (hnew)
                    have HTWt := Lib.hid HTW.out.bt
                    have HTWw := Lib.hid HTW.out.bw
                    obtain ⟨kt0, kt1, kt2, kt3, kt4, kt5, kt6, kt7, kt8, kt9, kt10, kt11, kt12, kt13, kt14⟩ := tab15 (HTWt.out)
                    obtain ⟨b0, b1, b2, b3, b4, b5, b6, b7, b8, b9, bA, bB, bC⟩ := wd13 (HTWw.out)
                    clear hnew
                    go_wp2_with fail
                    go_ret
                    exact OneW.f HTW.out.bl
                  | true =>
                    cases r3 with
                    | false =>
                      go_wp2_with fail
                      refine region_text (fun w' => Below w2.heap.size w2 w') (by kernel_rfl) (by kernel_rfl) ((Below.refl _ _).drew) (fun KK hKK => ?_)
                      intro OPS
                      try simp only [List.append]
                      repeat (first
                        | (refine' inText_val ?_ ?_ ?_ ?_
                           rotate_left 2
                           · rfl
                           · (intro w' hS; obtain ⟨hcc, hff⟩ := bcell hS; go_simp; first | with_reducible rfl | (rw [if_neg (by omega)]; done) | (rw [if_neg (by omega)]; with_reducible rfl) | skip)
                           · (simp only [Act.put, List.setIfInBounds_toArray, List.set_cons_zero, List.set_cons_succ]; with_reducible rfl))
                        | (refine' inText_skip ?_ ?_ ?_
                           rotate_left 1
                           · rfl
                           · (simp only [Act.put, List.setIfInBounds_toArray, List.set_cons_zero, List.set_cons_succ]; with_reducible rfl))
                        | (refine' inText_call ?_ ?_ ?_ ?_ ?_
                           rotate_left 4
                           · rfl
                           · (intro w' hS; obtain ⟨hcc, hff⟩ := bcell hS; go_simp; exact ⟨rfl, rfl⟩)
                           · (intro w' hS
                              first
                                | ((with_reducible refine (G0.out w' hS).mono ?_); exact fun e w'' h => ⟨h.1, by rw [← h.2]; exact hS⟩)
                                | ((with_reducible refine (G1.out w' hS).mono ?_); exact fun e w'' h => ⟨h.1, by rw [← h.2]; exact hS⟩)
                                | ((with_reducible refine (GB.out w' hS).mono ?_); exact fun e w'' h => ⟨h.1, by rw [← h.2]; exact hS⟩)
                                | ((with_reducible refine (G2.out w' hS).mono ?_); exact fun e w'' h => ⟨h.1, by rw [← h.2]; exact hS⟩)
                                | ((with_reducible refine (G3.out w' hS).mono ?_); exact fun e w'' h => ⟨h.1, by rw [← h.2]; exact hS⟩)
                                | ((with_reducible refine (G4.out w' hS).mono ?_); exact fun e w'' h => ⟨h.1, by rw [← h.2]; exact hS⟩)
                                | ((with_reducible refine (G5.out w' hS).mono ?_); exact fun e w'' h => ⟨h.1, by rw [← h.2]; exact hS⟩))
                           · (simp only [Act.put, List.setIfInBounds_toArray, List.set_cons_zero, List.set_cons_succ]; with_reducible rfl)))
                      refine inText_nil (hKK.out _ (fun w3 hS => ?_))
                      have hnew := HTW.out.below hS
                      clear hS hKK G0 G1 GB G2 G3 G4 G5
                      clear kt0 kt1 kt2 kt3 kt4 kt5 kt6 kt7 kt8 kt9 kt10 kt11 kt12 kt13 kt14
                      clear b0 b1 b2 b3 b4 b5 b6 b7 b8 b9 bA bB bC
                      clear HTWt HTWw
                      clear HTW
                      have HTW := Lib.hid (hnew)
                      have HTWt := Lib.hid HTW.out.bt
                      have HTWw := Lib.hid HTW.out.bw
                      obtain ⟨kt0, kt1, kt2, kt3, kt4, kt5, kt6, kt7, kt8, kt9, kt10, kt11, kt12, kt13, kt14⟩ := tab15 (HTWt.out)
                      obtain ⟨b0, b1, b2, b3, b4, b5, b6, b7, b8, b9, bA, bB, bC⟩ := wd13 (HTWw.out)
                      clear hnew
                      go_wp2_with fail
                      go_ret
                      exact OneW.f HTW.out.bl
                    | true =>
                      cases r4 with
                      | false =>
                        go_wp2_with fail
                        refine region_text (fun w' => Below w2.heap.size w2 w') (by kernel_rfl) (by kernel_rfl) ((Below.refl _ _).drew) (fun KK hKK => ?_)
                        intro OPS
                        try simp only [List.append]
                        repeat (first
                          | (refine' inText_val ?_ ?_ ?_ ?_
                             rotate_left 2
                             · rfl
                             · (intro w' hS; obtain ⟨hcc, hff⟩ := bcell hS; go_simp; first | with_reducible rfl | (rw [if_neg (by omega)]; done) | (rw [if_neg (by omega)]; with_reducible rfl) | skip)
                             · (simp only [Act.put, List.setIfInBounds_toArray, List.set_cons_zero, List.set_cons_succ]; with_reducible rfl))
                          | (refine' inText_skip ?_ ?_ ?_
                             rotate_left 1
                             · rfl
                             · (simp only [Act.put, List.setIfInBounds_toArray, List.set_cons_zero, List.set_cons_succ]; with_reducible rfl))
                          | (refine' inText_call ?_ ?_ ?_ ?_ ?_
                             rotate_left 4
                             · rfl
                             · (intro w' hS; obtain ⟨hcc, hff⟩ := bcell hS; go_simp; exact ⟨rfl, rfl⟩)
                             · (intro w' hS
                                first
                                  | ((with_reducible refine (G0.out w' hS).mono ?_); exact fun e w'' h => ⟨h.1, by rw [← h.2]; exact hS⟩)
                                  | ((with_reducible refine (G1.out w' hS).mono ?_); exact fun e w'' h => ⟨h.1, by rw [← h.2]; exact hS⟩)
                                  | ((with_reducible refine (GB.out w' hS).mono ?_); exact fun e w'' h => ⟨h.1, by rw [← h.2]; exact hS⟩)
                                  | ((with_reducible refine (G2.out w' hS).mono ?_); exact fun e w'' h => ⟨h.1, by rw [← h.2]; exact hS⟩)
                                  | ((with_reducible refine (G3.out w' hS).mono ?_); exact fun e w'' h => ⟨h.1, by rw [← h.2]; exact hS⟩)
                                  | ((with_reducible refine (G4.out w' hS).mono ?_); exact fun e w'' h => ⟨h.1, by rw [← h.2]; exact hS⟩)
                                  | ((with_reducible refine (G5.out w' hS).mono ?_); exact fun e w'' h => ⟨h.1, by rw [← h.2]; exact hS⟩))
                             · (simp only [Act.put, List.setIfInBounds_toArray, List.set_cons_zero, List.set_cons_succ]; with_reducible rfl)))
                        refine inText_nil (hKK.out _ (fun w3 hS => ?_))
                        have hnew := HTW.out.below hS
                        clear hS hKK G0 G1 GB G2 G3 G4 G5
                        clear kt0 kt1 kt2 kt3 kt4 kt5 kt6 kt7 kt8 kt9 kt10 kt11 kt12 kt13 kt14
                        clear b0 b1 b2 b3 b4 b5 b6 b7 b8 b9 bA bB bC
                        clear HTWt HTWw
                        clear HTW
                        have HTW := Lib.hid (hnew)
                        have HTWt := Lib.hid HTW.out.bt
                        have HTWw := Lib.hid HTW.out.bw
                        obtain ⟨kt0, kt1, kt2, kt3, kt4, kt5, kt6, kt7, kt8, kt9, kt10, kt11, kt12, kt13, kt14⟩ := tab15 (HTWt.out)
                        obtain ⟨b0, b1, b2, b3, b4, b5, b6, b7, b8, b9, bA, bB, bC⟩ := wd13 (HTWw.out)
                        clear hnew
                        go_wp2_with fail
                        go_ret
                        exact OneW.f HTW.out.bl
                      | true =>
                        cases r5 with
                        | false =>
                          go_wp2_with fail
                          refine region_text (fun w' => Below w2.heap.size w2 w') (by kernel_rfl) (by kernel_rfl) ((Below.refl _ _).drew) (fun KK hKK => ?_)
                          intro OPS
                          try simp only [List.append]
                          repeat (first
                            | (refine' inText_val ?_ ?_ ?_ ?_
                               rotate_left 2
                               · rfl
                               · (intro w' hS; obtain ⟨hcc, hff⟩ := bcell hS; go_simp; first | with_reducible rfl | (rw [if_neg (by omega)]; done) | (rw [if_neg (by omega)]; with_reducible rfl) | skip)
                               · (simp only [Act.put, List.setIfInBounds_toArray, List.set_cons_zero, List.set_cons_succ]; with_reducible rfl))
                            | (refine' inText_skip ?_ ?_ ?_
                               rotate_left 1
                               · rfl
                               · (simp only [Act.put, List.setIfInBounds_toArray, List.set_cons_zero, List.set_cons_succ]; with_reducible rfl))
                            | (refine' inText_call ?_ ?_ ?_ ?_ ?_
                               rotate_left 4
                               · rfl
                               · (intro w' hS; obtain ⟨hcc, hff⟩ := bcell hS; go_simp; exact ⟨rfl, rfl⟩)
                               · (intro w' hS
                                  first
                                    | ((with_reducible refine (G0.out w' hS).mono ?_); exact fun e w'' h => ⟨h.1, by rw [← h.2]; exact hS⟩)
                                    | ((with_reducible refine (G1.out w' hS).mono ?_); exact fun e w'' h => ⟨h.1, by rw [← h.2]; exact hS⟩)
                                    | ((with_reducible refine (GB.out w' hS).mono ?_); exact fun e w'' h => ⟨h.1, by rw [← h.2]; exact hS⟩)
                                    | ((with_reducible refine (G2.out w' hS).mono ?_); exact fun e w'' h => ⟨h.1, by rw [← h.2]; exact hS⟩)
                                    | ((with_reducible refine (G3.out w' hS).mono ?_); exact fun e w'' h => ⟨h.1, by rw [← h.2]; exact hS⟩)
                                    | ((with_reducible refine (G4.out w' hS).mono ?_); exact fun e w'' h => ⟨h.1, by rw [← h.2]; exact hS⟩)
                                    | ((with_reducible refine (G5.out w' hS).mono ?_); exact fun e w'' h => ⟨h.1, by rw [← h.2]; exact hS⟩))
                               · (simp only [Act.put, List.setIfInBounds_toArray, List.set_cons_zero, List.set_cons_succ]; with_reducible rfl)))
                          refine inText_nil (hKK.out _ (fun w3 hS => ?_))
                          have hnew := HTW.out.below hS
                          clear hS hKK G0 G1 GB G2 G3 G4 G5
                          clear kt0 kt1 kt2 kt3 kt4 kt5 kt6 kt7 kt8 kt9 kt10 kt11 kt12 kt13 kt14
                          clear b0 b1 b2 b3 b4 b5 b6 b7 b8 b9 bA bB bC
                          clear HTWt HTWw
                          clear HTW
                          have HTW := Lib.hid (hnew)
                          have HTWt := Lib.hid HTW.out.bt
                          have HTWw := Lib.hid HTW.out.bw
                          obtain ⟨kt0, kt1, kt2, kt3, kt4, kt5, kt6, kt7, kt8, kt9, kt10, kt11, kt12, kt13, kt14⟩ := tab15 (HTWt.out)
                          obtain ⟨b0, b1, b2, b3, b4, b5, b6, b7, b8, b9, bA, bB, bC⟩ := wd13 (HTWw.out)
                          clear hnew
                          go_wp2_with fail
                          go_ret
                          exact OneW.f HTW.out.bl
                        | true =>
                          go_wp2_with fail
                          refine region_text (fun w' => Below w2.heap.size w2 w') (by kernel_rfl) (by kernel_rfl) ((Below.refl _ _).drew) (fun KK hKK => ?_)
                          intro OPS
                          try simp only [List.append]
                          repeat (first
                            | (refine' inText_val ?_ ?_ ?_ ?_
                               rotate_left 2
                               · rfl
                               · (intro w' hS; obtain ⟨hcc, hff⟩ := bcell hS; go_simp; first | with_reducible rfl | (rw [if_neg (by omega)]; done) | (rw [if_neg (by omega)]; with_reducible rfl) | skip)
                               · (simp only [Act.put, List.setIfInBounds_toArray, List.set_cons_zero, List.set_cons_succ]; with_reducible rfl))
                            | (refine' inText_skip ?_ ?_ ?_
                               rotate_left 1
                               · rfl
                               · (simp only [Act.put, List.setIfInBounds_toArray, List.set_cons_zero, List.set_cons_succ]; with_reducible rfl))
                            | (refine' inText_call ?_ ?_ ?_ ?_ ?_
                               rotate_left 4
                               · rfl
                               · (intro w' hS; obtain ⟨hcc, hff⟩ := bcell hS; go_simp; exact ⟨rfl, rfl⟩)
                               · (intro w' hS
                                  first
                                    | ((with_reducible refine (G0.out w' hS).mono ?_); exact fun e w'' h => ⟨h.1, by rw [← h.2]; exact hS⟩)
                                    | ((with_reducible refine (G1.out w' hS).mono ?_); exact fun e w'' h => ⟨h.1, by rw [← h.2]; exact hS⟩)
                                    | ((with_reducible refine (GB.out w' hS).mono ?_); exact fun e w'' h => ⟨h.1, by rw [← h.2]; exact hS⟩)
                                    | ((with_reducible refine (G2.out w' hS).mono ?_); exact fun e w'' h => ⟨h.1, by rw [← h.2]; exact hS⟩)
                                    | ((with_reducible refine (G3.out w' hS).mono ?_); exact fun e w'' h => ⟨h.1, by rw [← h.2]; exact hS⟩)
                                    | ((with_reducible refine (G4.out w' hS).mono ?_); exact fun e w'' h => ⟨h.1, by rw [← h.2]; exact hS⟩)
                                    | ((with_reducible refine (G5.out w' hS).mono ?_); exact fun e w'' h => ⟨h.1, by rw [← h.2]; exact hS⟩))
                               · (simp only [Act.put, List.setIfInBounds_toArray, List.set_cons_zero, List.set_cons_succ]; with_reducible rfl)))
                          refine inText_nil (hKK.out _ (fun w3 hS => ?_))
                          have hnew := HTW.out.below hS
                          clear hS hKK G0 G1 GB G2 G3 G4 G5
                          clear kt0 kt1 kt2 kt3 kt4 kt5 kt6 kt7 kt8 kt9 kt10 kt11 kt12 kt13 kt14
                          clear b0 b1 b2 b3 b4 b5 b6 b7 b8 b9 bA bB bC
                          clear HTWt HTWw
                          clear HTW
                          have HTW := Lib.hid (hnew)
                          have HTWt := Lib.hid HTW.out.bt
                          have HTWw := Lib.hid HTW.out.bw
                          obtain ⟨kt0, kt1, kt2, kt3, kt4, kt5, kt6, kt7, kt8, kt9, kt10, kt11, kt12, kt13, kt14⟩ := tab15 (HTWt.out)
                          obtain ⟨b0, b1, b2, b3, b4, b5, b6, b7, b8, b9, bA, bB, bC⟩ := wd13 (HTWw.out)
                          clear hnew
                          cases s0 with
                          | false =>
                            go_wp2_with (first
                              | (go_at_call 56; (with_reducible refine (F0.out _).mono ?_); rintro e w' ⟨rfl, rfl⟩))
                            go_ret
                            exact OneW.f HTW.out.bl
                          | true =>
                            cases s1 with
                            | false =>
                              go_wp2_with (first
                                | (go_at_call 56; (with_reducible refine (F0.out _).mono ?_); rintro e w' ⟨rfl, rfl⟩)
                                | (go_at_call 56; (with_reducible refine (F1.out _).mono ?_); rintro e w' ⟨rfl, rfl⟩))
                              go_ret
                              exact OneW.f HTW.out.bl
                            | true =>
                              cases s2 with
                              | false =>
                                go_wp2_with (first
                                  | (go_at_call 56; (with_reducible refine (F0.out _).mono ?_); rintro e w' ⟨rfl, rfl⟩)
                                  | (go_at_call 56; (with_reducible refine (F1.out _).mono ?_); rintro e w' ⟨rfl, rfl⟩)
                                  | (go_at_call 56; (with_reducible refine (F2.out _).mono ?_); rintro e w' ⟨rfl, rfl⟩))
                                go_ret
                                exact OneW.f HTW.out.bl
                              | true =>
                                go_wp2_with (first
                                  | (go_at_call 56; (with_reducible refine (F0.out _).mono ?_); rintro e w' ⟨rfl, rfl⟩)
                                  | (go_at_call 56; (with_reducible refine (F1.out _).mono ?_); rintro e w' ⟨rfl, rfl⟩)
                                  | (go_at_call 56; (with_reducible refine (F2.out _).mono ?_); rintro e w' ⟨rfl, rfl⟩))
                                have HWL : WLen q d t.th.length := ⟨Hz1.out, by rw [HNO.out.h2, Hz1.out], by rw [HNO.out.h3, Hz1.out], by unfold maxLen; omega⟩
                                refine (HPL.out _ HTW.out.bl HWL).mono ?_
                                rintro e w4 ⟨bp, rfl, _, hB4⟩
                                have HB4 := Lib.hid (bl_then HTW.out.bl hB4)
                                clear hB4 HWL
                                clear kt0 kt1 kt2 kt3 kt4 kt5 kt6 kt7 kt8 kt9 kt10 kt11 kt12 kt13 kt14
                                clear b0 b1 b2 b3 b4 b5 b6 b7 b8 b9 bA bB bC
                                clear HTWt HTWw
                                go_wp2_with fail
                                go_ret
                                exact ⟨_, rfl, fun _ => HR.out Hz0.out Hz1.out Hz4.out Hz5.out Hz6.out HNO.out (by trivial) (by trivial) (by trivial) (by trivial) (by trivial) (by trivial) (by trivial) (by trivial) (by trivial), HB4.out⟩
          · have qz6 := nat_ne z6
            clear z6
            go_wp2_with fail
            go_ret
            exact OneW.f HTW.out.bl
        · have qz5 := nat_ne2 z5
          clear z5
          go_wp2_with fail
          go_ret
          exact OneW.f HTW.out.bl
      · have qz4 := nat_ne z4
        clear z4
        go_wp2_with fail
        go_ret
        exact OneW.f HTW.out.bl
    · have qz1 := nat_ne z1
      clear z1
      go_wp2_with fail
      go_ret
      exact OneW.f HTW.out.bl
  · have qz0 := nat_ne z0
    clear z0
    go_wp2_with fail
    go_ret
    exact OneW.f HTW.out.bl
end Go.Proofs.YtjggklfegcejhaaGreat
namespace Go.Proofs.YtjggklfegcejhaaGreat
open Go.RowKit Go.PlainAid Go.ChangeShapes Go.WideShapes Go.Deep
set_option linter.unusedVariables false
set_option linter.unusedSimpArgs false

theorem array13 {α : Type} {a : Array α} (h : a.size = 13) : ∃ c0 c1 c2 c3 c4 c5 c6 c7 c8 c9 c10 c11 c12, a = #[c0, c1, c2, c3, c4, c5, c6, c7, c8, c9, c10, c11, c12] := by
  obtain ⟨l⟩ := a
  match l, h with
  | [c0, c1, c2, c3, c4, c5, c6, c7, c8, c9, c10, c11, c12], _ => exact ⟨c0, c1, c2, c3, c4, c5, c6, c7, c8, c9, c10, c11, c12, rfl⟩
theorem cells_wd : Tryz.prog.cellsOf 31 = 13 := by kernel_rfl
set_option maxRecDepth 100000 in
theorem world_open {H : Type} {enc : TypeId × Value → H} {w : World} {r : Reach} {b0 base : Nat} {spare : Nat → Bool} {held : Bool} {v : Value} {d : DataW H} {p : List MemPlace} (hv : Value.okWide Tryz.prog w r b0 31 v)
    (h : DataW.Trod enc Tryz.prog w base spare held 31 v d p) (hn : Near Tryz.prog 31 d) : ∃ (q : Wv) (e : WdC), v = worldV q ∧ WRd w q e := by
  obtain ⟨cs, rfl, hsz⟩ := okWide_struct Tryz.underlying31 hv
  obtain ⟨c0, c1, c2, c3, c4, c5, c6, c7, c8, c9, c10, c11, c12, rfl⟩ := array13 (hsz.trans cells_wd)
  obtain ⟨fuel, hf⟩ := h
  obtain ⟨h1, h2⟩ := near_fields Tryz.underlying31 (by kernel_rfl) (by kernel_rfl) hf hn
  obtain ⟨x0, y0⟩ := nearN_one (c := Cd.is) 0 _ h2 rfl (by simp [Value.cells]) opens_ints
  obtain ⟨x1, y1⟩ := nearN_one (c := Cd.is) 1 _ h2 rfl (by simp [Value.cells]) opens_ints
  obtain ⟨x2, y2⟩ := nearN_one (c := Cd.is) 2 _ h2 rfl (by simp [Value.cells]) opens_ints
  obtain ⟨x3, y3⟩ := nearN_one (c := Cd.is) 3 _ h2 rfl (by simp [Value.cells]) opens_ints
  obtain ⟨x4, y4⟩ := nearN_one (c := Cd.is) 4 _ h2 rfl (by simp [Value.cells]) opens_ints
  obtain ⟨x5, y5⟩ := nearN_one (c := Cd.is) 5 _ h2 rfl (by simp [Value.cells]) opens_ints
  obtain ⟨x6, y6⟩ := nearN_one (c := Cd.is) 6 _ h2 rfl (by simp [Value.cells]) opens_ints
  obtain ⟨x7, y7⟩ := nearN_one (c := Cd.int .u64) 7 _ h2 rfl (by simp [Value.cells]) (Opens.n (opens_int Tryz.underlying29))
  obtain ⟨x8, y8⟩ := nearN_one (c := Cd.i) 8 _ h2 rfl (by simp [Value.cells]) (Opens.n (opens_int Tryz.underlying3))
  obtain ⟨x9, y9⟩ := nearN_one (c := Cd.i) 9 _ h2 rfl (by simp [Value.cells]) (Opens.n (opens_int Tryz.underlying3))
  obtain ⟨x10, y10⟩ := nearN_one (c := Cd.i) 10 _ h2 rfl (by simp [Value.cells]) (Opens.n (opens_int Tryz.underlying3))
  obtain ⟨x11, y11⟩ := nearN_one (c := Cd.i) 11 _ h2 rfl (by simp [Value.cells]) (Opens.n (opens_int Tryz.underlying3))
  obtain ⟨x12, y12⟩ := nearN_one (c := Cd.i) 12 _ h2 rfl (by simp [Value.cells]) (Opens.n (opens_int Tryz.underlying3))
  obtain ⟨a0, k0, e0, _⟩ := Reads.len (v := c0) (Reads.q y0)
  obtain ⟨a1, k1, e1, _⟩ := Reads.len (v := c1) (Reads.q y1)
  obtain ⟨a2, k2, e2, _⟩ := Reads.len (v := c2) (Reads.q y2)
  obtain ⟨a3, k3, e3, _⟩ := Reads.len (v := c3) (Reads.q y3)
  obtain ⟨a4, k4, e4, _⟩ := Reads.len (v := c4) (Reads.q y4)
  obtain ⟨a5, k5, e5, _⟩ := Reads.len (v := c5) (Reads.q y5)
  obtain ⟨a6, k6, e6, _⟩ := Reads.len (v := c6) (Reads.q y6)
  have e7 : c7 = .int .u64 x7 := (Reads.int (v := c7) y7).1
  have e8 : c8 = .int .i64 x8 := (Reads.int (v := c8) y8).1
  have e9 : c9 = .int .i64 x9 := (Reads.int (v := c9) y9).1
  have e10 : c10 = .int .i64 x10 := (Reads.int (v := c10) y10).1
  have e11 : c11 = .int .i64 x11 := (Reads.int (v := c11) y11).1
  have e12 : c12 = .int .i64 x12 := (Reads.int (v := c12) y12).1
  subst e0 e1 e2 e3 e4 e5 e6 e7 e8 e9 e10 e11 e12
  exact ⟨⟨a0, a1, a2, a3, a4, a5, a6, x0.length, x1.length, x2.length, x3.length, x4.length, x5.length, x6.length, k0, k1, k2, k3, k4, k5, k6, x7, x8, x9, x10, x11, x12⟩, ⟨x0, x1, x2, x3, x4, x5, x6⟩, rfl, ⟨y0, y1, y2, y3, y4, y5, y6, y8.2, y9.2, y10.2, y11.2, y12.2⟩⟩
theorem RightOk.ok {t : TbC} {q : Wv} {d : WdC} {w : World} (h : RightOk t q d) (hf : FitsOk t) (hw : WRd w q d) : WOk w q d t.th.length where
  is := hw.is
  len := ⟨h.h1, by rw [h.nest.h2, h.h1], by rw [h.nest.h3, h.h1], by have := hf.th.len.2; unfold maxLen; omega⟩
  l4 := h.h4
  pos := by have := hf.th.len.1; omega
  few := by have := hf.th.len.2; omega
  fl := fun m hm => by have := h.fl m hm; have := bitsN_le t.fl; omega
  nest := by have := h.nest.nest.nest; rwa [h.h1] at this
theorem FitsOk.tw {t : TbC} (h : FitsOk t) : TW t t.th.length := ⟨rfl, by have := h.th.len.1; omega, h.he.tl⟩
end Go.Proofs.YtjggklfegcejhaaGreat
namespace Go.Proofs.YtjggklfegcejhaaGreat
open Go.RowKit Go.PlainAid
set_option linter.unusedVariables false
set_option linter.unusedSimpArgs false

theorem kid_ups {pa ch nx : List Int} {n : Nat} (h : NestW pa ch nx n) (hn : 1 ≤ n) {x c : Int} (hc : c ∈ kidsW ch nx n x) : upsW pa n n c = c :: upsW pa n n x := by
  have h1 := kids_is hc
  have h2 := h.up x c hc
  obtain ⟨m, rfl⟩ : ∃ m, n = m + 1 := ⟨n - 1, by omega⟩
  rw [ups_short pa _ m x (ups_len h hn x), upsW, if_pos h1, h2]
def partN (kids : Int → List Int) (hid sho : Int → Bool) (d : Nat) (c : Int) : List Int := if hid c = true then [] else c :: (if sho c = true then reachW kids hid sho d c else [])
theorem reach_partN (kids : Int → List Int) (hid sho : Int → Bool) (d : Nat) (x : Int) : reachW kids hid sho (d + 1) x = (kids x).flatMap (partN kids hid sho d) := rfl
mutual
theorem reach_up {pa ch nx : List Int} {n : Nat} (h : NestW pa ch nx n) (hn : 1 ≤ n) (hid sho : Int → Bool) : ∀ (d : Nat) (x y : Int), y ∈ reachW (kidsW ch nx n) hid sho d x → ∃ (s : List Int) (c : Int), upsW pa n n y = s ++ c :: upsW pa n n x
  | 0, x, y => fun hy => by cases hy
  | d + 1, x, y => fun hy => by
    rw [reach_partN] at hy
    obtain ⟨c, hc, hy⟩ := List.mem_flatMap.1 hy
    obtain ⟨s, e⟩ := part_upN h hn hid sho d x c y hc hy
    exact ⟨s, c, e⟩
theorem part_upN {pa ch nx : List Int} {n : Nat} (h : NestW pa ch nx n) (hn : 1 ≤ n) (hid sho : Int → Bool) : ∀ (d : Nat) (x c y : Int), c ∈ kidsW ch nx n x → y ∈ partN (kidsW ch nx n) hid sho d c → ∃ s : List Int, upsW pa n n y = s ++ c :: upsW pa n n x
  | d, x, c, y => fun hc hy => by
    unfold partN at hy
    split at hy
    · cases hy
    · rcases List.mem_cons.1 hy with rfl | hy
      · exact ⟨[], kid_ups h hn hc⟩
      · split at hy
        · obtain ⟨s, c', e⟩ := reach_up h hn hid sho d c y hy
          exact ⟨s ++ [c'], by rw [e, kid_ups h hn hc]; simp⟩
        · cases hy
end
theorem reach_nodup {pa ch nx : List Int} {n : Nat} (h : NestW pa ch nx n) (hn : 1 ≤ n) (hd : ∀ x, (kidsW ch nx n x).Nodup) (hid sho : Int → Bool) : ∀ (d : Nat) (x : Int), (reachW (kidsW ch nx n) hid sho d x).Nodup
  | 0, x => List.nodup_nil
  | d + 1, x => by
    rw [reach_partN]
    refine List.pairwise_flatMap.2 ⟨fun c hc => ?_, ?_⟩
    · unfold partN
      split
      · exact List.Pairwise.nil
      · refine List.nodup_cons.2 ⟨fun hm => ?_, ?_⟩
        · split at hm
          · obtain ⟨s, c', e⟩ := reach_up h hn hid sho d c c hm
            have := congrArg List.length e
            simp at this
            omega
          · cases hm
        · split
          · exact reach_nodup h hn hd hid sho d c
          · exact List.nodup_nil
    · refine List.Pairwise.imp_of_mem (fun {a b} ha hb hab y hy z hz e => ?_) (hd x)
      subst e
      obtain ⟨s1, e1⟩ := part_upN h hn hid sho d x a y ha hy
      obtain ⟨s2, e2⟩ := part_upN h hn hid sho d x b y hb hz
      rw [e1] at e2
      have := (List.append_inj' e2 (by simp)).2
      simp at this
      exact hab this
theorem reach_is {ch nx : List Int} {n : Nat} (hid sho : Int → Bool) : ∀ (d : Nat) (x y : Int), y ∈ reachW (kidsW ch nx n) hid sho d x → isW n y = true
  | 0, x, y => fun hy => by cases hy
  | d + 1, x, y => fun hy => by
    rw [reach_partN] at hy
    obtain ⟨c, hc, hy⟩ := List.mem_flatMap.1 hy
    unfold partN at hy
    split at hy
    · cases hy
    · rcases List.mem_cons.1 hy with rfl | hy
      · exact kids_is hc
      · split at hy
        · exact reach_is hid sho d c y hy
        · cases hy
theorem reach_len {pa ch nx : List Int} {n : Nat} (h : NestW pa ch nx n) (hn : 1 ≤ n) (hd : ∀ x, (kidsW ch nx n x).Nodup) (hid sho : Int → Bool) (d : Nat) (x : Int) : (reachW (kidsW ch nx n) hid sho d x).length ≤ n :=
  nodup_bd n _ (reach_nodup h hn hd hid sho d x) fun y hy => by have := isW_spec.1 (reach_is hid sho d x y hy); omega
set_option maxRecDepth 100000 in
set_option maxHeartbeats 4000000 in
theorem ref23has (q : Wv) (d : WdC) (x f : Int) (n : Nat) (w : World) (h : WOk w q d n) (h0 : 0 ≤ f) (h1 : f ≤ 15) :
    Calls Tryz.prog 74 #[worldV q, .int .i64 x, .int .i64 f] w fun e w' => e = .returned (.bool (hasB d.fl n x f)) ∧ Below w.heap.size w w' := by
  have hl4 := h.l4
  have hmm := h.few
  have HBw := Lib.hid (BK.new w (worldC q) 31)
  have HB0 := Lib.hid (bl_oneA w (.cells (worldC q).toArray 31))
  unfold hasB
  cases hx : isW n x with
  | false =>
    have hxs : ¬ (1 ≤ x ∧ x < (n : Int)) := fun hh => by rw [isW_spec.2 hh] at hx; cases hx
    obtain ⟨W0, hW0⟩ : ∃ W0, w.alloc (.cells (worldC q).toArray 31) = W0 := ⟨_, rfl⟩
    rw [hW0] at HBw HB0
    clear hx h
    obtain ⟨b0, b1, b2, b3, b4, b5, b6, b7, b8, b9, bA, bB, bC⟩ := wd13 (HBw)
    unfold worldV at *
    unfold worldC at hW0 ⊢
    by_cases h1x : 1 ≤ x
    · have h2x : ¬ (x < (n : Int)) := fun hh => hxs ⟨h1x, hh⟩
      rw [← hl4] at h2x
      clear hxs hl4
      go_enter Tryz.func74, Tryz.ntmps74
      go_wp2
      go_ret
      exact ⟨rfl, HB0.out⟩
    · clear hxs hl4
      go_enter Tryz.func74, Tryz.ntmps74
      go_wp2
      go_ret
      exact ⟨rfl, HB0.out⟩
  | true =>
    have hlt := isW_lt hx
    have hx4 := (isW_spec.1 hx).1
    have h5 : d.fl.length = n := by rw [← h.is.fl.len, h.l4]
    obtain ⟨bc, oc, hac, hbc, hcc, _⟩ := h.is.fl.at_ (i := x.toNat) (by rw [h5]; exact hlt.1)
    have hcx := hcc x.toNat (by rw [h5]; exact hlt.1)
    have hfm := h.fl _ (List.getElem_mem (n := x.toNat) (by rw [h5]; exact hlt.1))
    rw [atW_get (by rw [h5]; exact hlt.1)]
    generalize d.fl[x.toNat]'(by rw [h5]; exact hlt.1) = m at *
    have hcx := (HB0.out.cell (p := ⟨bc, oc + x.toNat, none⟩) hbc).trans hcx
    obtain ⟨v0, v1⟩ := shr_bd m f hfm.1 hfm.2
    have hv : Hid (bitB m f = decide (m / 2 ^ f.toNat % 2 = 1)) := Lib.hid rfl
    have hq : Int.tmod (m / 2 ^ f.toNat) 2 = m / 2 ^ f.toNat % 2 := Int.tmod_eq_emod_of_nonneg v0
    have hq1 : IntKind.i64.wrap (m / 2 ^ f.toNat % 2) = m / 2 ^ f.toNat % 2 := IntWalk.i64_in _ (by omega)
    obtain ⟨W0, hW0⟩ : ∃ W0, w.alloc (.cells (worldC q).toArray 31) = W0 := ⟨_, rfl⟩
    rw [hW0] at HBw HB0 hcx
    clear h h5 hcc hx
    obtain ⟨hx1, hx2, hx3⟩ := hlt
    obtain ⟨hm0, hm1⟩ := hfm
    obtain ⟨a0, a1, a2, a3, a4, a5, a6, l0, l1, l2, l3, l4, l5, l6, c0, c1, c2, c3, c4, c5, c6, s, sc, tu, ov, it, go⟩ := q
    simp only at *
    subst hl4 hac
    obtain ⟨b0, b1, b2, b3, b4, b5, b6, b7, b8, b9, bA, bB, bC⟩ := wd13 (HBw)
    unfold worldV at *
    unfold worldC at hW0 ⊢
    try simp only at hW0
    try simp only
    go_enter Tryz.func74, Tryz.ntmps74
    go_wp2
    go_ret
    exact ⟨rfl, HB0.out⟩
theorem ref23shows (q : Wv) (d : WdC) (x : Int) (n : Nat) (w : World) (h : WOk w q d n) :
    Calls Tryz.prog 75 #[worldV q, .int .i64 x] w fun e w' => e = .returned (.bool (showB d.fl n x)) ∧ Below w.heap.size w w' := by
  have HI := Lib.hid (ref23has q d x 2 n (w.alloc (.cells (worldC q).toArray 31)) (h.below (bl_oneA _ _)) (by decide) (by decide))
  have HI2 := Lib.hid (fun w' (hb : Below w.heap.size w w') => ref23has q d x 1 n w' (h.below hb) (by decide) (by decide))
  have HK : Hid (∀ w1, Below (w.alloc (.cells (worldC q).toArray 31)).heap.size (w.alloc (.cells (worldC q).toArray 31)) w1 → BK w1 w.heap.size (worldC q) 31) := Lib.hid (fun w1 hb => (BK.new w (worldC q) 31).below hb)
  unfold showB
  generalize hasB d.fl n x 2 = b at *
  generalize hasB d.fl n x 1 = c at *
  clear h
  unfold worldV at *
  cases b
  · unfold worldC at *
    go_enter Tryz.func75, Tryz.ntmps75
    go_wp2_with fail
    refine HI.out.mono ?_
    rintro e w1 ⟨rfl, hb1⟩
    have HB1 := Lib.hid ((bl_oneA w _).trans (hb1.mono (bl_oneA w _).size))
    clear hb1
    go_wp2
    go_ret
    exact ⟨rfl, HB1.out⟩
  · go_enter Tryz.func75, Tryz.ntmps75
    unfold worldC at HI HI2 ⊢
    go_wp2_with fail
    refine HI.out.mono ?_
    rintro e w1 ⟨rfl, hb1⟩
    have HB1 := Lib.hid ((bl_oneA w _).trans (hb1.mono (bl_oneA w _).size))
    have HW := Lib.hid (HK.out w1 hb1)
    obtain ⟨b0, b1, b2, b3, b4, b5, b6, b7, b8, b9, bA, bB, bC⟩ := wd13 (HW)
    clear hb1
    go_wp2_with fail
    refine (HI2.out _ HB1.out).mono ?_
    rintro e w2 ⟨rfl, hb2⟩
    have HB2 := Lib.hid (HB1.out.trans (hb2.mono HB1.out.size))
    clear hb2
    go_wp2
    go_ret
    exact ⟨rfl, HB2.out⟩
theorem ref23Here (q : Wv) (d : WdC) (n : Nat) (w : World) (hw : WOk w q d n) :
    Calls Tryz.prog 33 #[worldV q] w fun e w' => e = .returned (.int .i64 (topOf d.pa n 1)) ∧ Below w.heap.size w w' := by
  have HI := Lib.hid (ref20Top q d 1 n (w.alloc (.cells (worldC q).toArray 31)) (hw.is.below (bl_oneA _ _)) hw.len)
  generalize topOf d.pa n 1 = b at *
  clear hw
  unfold worldV worldC at *
  go_enter Tryz.func33, Tryz.ntmps33
  go_wp2_with fail
  refine HI.out.mono ?_
  rintro e w1 ⟨rfl, hb1⟩
  have HB1 := Lib.hid ((bl_oneA w _).trans (hb1.mono (bl_oneA w _).size))
  clear hb1
  go_wp2
  go_ret
  exact ⟨rfl, HB1.out⟩
end Go.Proofs.YtjggklfegcejhaaGreat
namespace Go.Proofs.YtjggklfegcejhaaGreat
open Go.RowKit Go.PlainAid
set_option linter.unusedVariables false
set_option linter.unusedSimpArgs false

theorem OwnInts.at3 {B : Nat} {w : World} {v : Value} {L : List Int} (h : OwnInts B w v L) (hn : 0 < L.length) : ∃ g c, v = .slice (some ⟨g, 0, none⟩) L.length c ∧ ∀ j u, (L.map (Value.int .i64))[j]? = some u → w.cell? ((⟨g, 0, none⟩ : Addr).add j) = some u := by
  obtain ⟨g, cap, rfl, hg, hlt⟩ := h.1.form hn
  refine ⟨g, cap, rfl, fun j u hj => ?_⟩
  have hjl : j < L.length := by
    have := (List.getElem?_eq_some_iff.1 hj).1
    simpa using this
  rw [show (⟨g, 0, none⟩ : Addr).add j = ⟨g, j, none⟩ by simp [Addr.add]; intro h; omega, h.1.cellAt j (by omega)]
  exact hj
theorem flat_take {f : Int → List Int} {L : List Int} {i : Nat} (h : i < L.length) : (L.take (i + 1)).flatMap f = (L.take i).flatMap f ++ f L[i] := by
  rw [List.take_succ_eq_append_getElem h, List.flatMap_append]; simp
theorem flat_le {f : Int → List Int} {L : List Int} (i : Nat) : ((L.take i).flatMap f).length ≤ (L.flatMap f).length := by
  have := congrArg (fun l => (List.flatMap f l).length) (List.take_append_drop i L)
  simp only [List.flatMap_append, List.length_append] at this
  omega
set_option maxRecDepth 100000 in
set_option maxHeartbeats 16000000 in
theorem ref23reached (q : Wv) (d : WdC) (n : Nat) (hd : ∀ x, (kidsW d.ch d.nx n x).Nodup) : ∀ (dep : Nat) (x : Int) (w : World), WOk w q d n → dep ≤ 1000 →
    Calls Tryz.prog 37 #[worldV q, .int .i64 x, .int .i64 dep] w (RetIntsR w (reachW (kidsW d.ch d.nx n) (fun c => hasB d.fl n c 3) (showB d.fl n) dep x))
  | 0, x, w => fun hW _ => by
    have hnn : n ≤ 1000000 := Nat.le_trans hW.few (by decide)
    have HK := Lib.hid (fun w' (hb : Below w.heap.size w w') => ref20Kids q d x n w' (hW.is.below hb) hW.len hnn)
    have hnew := OneBx.new q w
    obtain ⟨W0, hW0⟩ : ∃ W0, w.alloc (.cells (worldC q).toArray 31) = W0 := ⟨_, rfl⟩
    rw [hW0] at hnew
    have HM : (kidsW d.ch d.nx n x).length ≤ 1000000 := kids_len1 _ _ _ _ hnn
    generalize kidsW d.ch d.nx n x = L at *
    have HB := Lib.hid hnew
    have HBw := Lib.hid hnew.bw
    clear hW hnew
    unfold worldV at *
    unfold worldC at HK hW0
    obtain ⟨b0, b1, b2, b3, b4, b5, b6, b7, b8, b9, bA, bB, bC⟩ := wd13 (HBw.out)
    go_enter Tryz.func37, Tryz.ntmps37
    unfold worldC
    go_wp2_with fail
    clear hW0
    refine (HK.out _ HB.out.bl).mono ?_
    rintro e w1 ⟨v, rfl, g1, g2⟩
    obtain ⟨a, cc, rfl⟩ := g1.shape
    have HB1 := Lib.hid (HB.out.below g2)
    clear g1 g2 HK HBw HB
    clear b0 b1 b2 b3 b4 b5 b6 b7 b8 b9 bA bB bC
    obtain ⟨m, hm⟩ : ∃ m, L.length = m := ⟨_, rfl⟩
    rw [hm] at HM ⊢
    clear hm
    go_wp2_with fail
    go_loopw [7, 9] (fun ov iv wr => ov = .slice none 0 0 ∧ iv = .int .i64 0 ∧ Hid (Below w1.heap.size w1 wr)) (fun _ iv _ => 0)
    case atStart => exact ⟨rfl, rfl, Lib.hid (Below.refl _ _)⟩
    case round =>
      obtain ⟨rfl, rfl, HBL⟩ := hrel
      have HBR := Lib.hid (HB1.out.below HBL.out)
      by_cases hm0 : 0 < m
      · go_wp2_with fail
        go_ret
        exact ⟨_, rfl, ⟨World.ownsRow_nil _ _ _ _, fun _ => rfl⟩, HBR.out.bl⟩
      · go_wp2_with fail
        go_ret
        exact ⟨_, rfl, ⟨World.ownsRow_nil _ _ _ _, fun _ => rfl⟩, HBR.out.bl⟩
  | dep + 1, x, w => fun hW hdep => by
    have hnn : n ≤ 1000000 := Nat.le_trans hW.few (by decide)
    have hfew := hW.few
    have HK := Lib.hid (fun w' (hb : Below w.heap.size w w') => ref20Kids q d x n w' (hW.is.below hb) hW.len hnn)
    have HH := Lib.hid (fun c w' (hb : Below w.heap.size w w') => ref23has q d c 3 n w' (hW.below hb) (by decide) (by decide))
    have HSH := Lib.hid (fun c w' (hb : Below w.heap.size w w') => ref23shows q d c n w' (hW.below hb))
    have HRE := Lib.hid (fun c w' (hb : Below w.heap.size w w') => ref23reached q d n hd dep c w' (hW.below hb) (by omega))
    have HRL := Lib.hid (fun dep' c => reach_len hW.nest hW.pos hd (fun c => hasB d.fl n c 3) (showB d.fl n) dep' c)
    have hnew := OneBx.new q w
    obtain ⟨W0, hW0⟩ : ∃ W0, w.alloc (.cells (worldC q).toArray 31) = W0 := ⟨_, rfl⟩
    rw [hW0] at hnew
    obtain ⟨i0, hi, hi1, hi2, hi3⟩ := info_parts info_intR
    have HM : (kidsW d.ch d.nx n x).length ≤ 1000000 := kids_len1 _ _ _ _ hnn
    have HFL : Hid (∀ i, (((kidsW d.ch d.nx n x).take i).flatMap (partN (kidsW d.ch d.nx n) (fun c => hasB d.fl n c 3) (showB d.fl n) dep)).length ≤ n) := Lib.hid (fun i => Nat.le_trans (flat_le i) (HRL.out (dep + 1) x))
    have HRLd := Lib.hid (HRL.out dep)
    rw [reach_partN]
    have HPA : Hid (∀ c, partN (kidsW d.ch d.nx n) (fun c => hasB d.fl n c 3) (showB d.fl n) dep c = if hasB d.fl n c 3 = true then [] else c :: (if showB d.fl n c = true then reachW (kidsW d.ch d.nx n) (fun c => hasB d.fl n c 3) (showB d.fl n) dep c else [])) := Lib.hid (fun c => rfl)
    generalize partN (kidsW d.ch d.nx n) (fun c => hasB d.fl n c 3) (showB d.fl n) dep = part at *
    generalize reachW (kidsW d.ch d.nx n) (fun c => hasB d.fl n c 3) (showB d.fl n) dep = RR at *
    generalize kidsW d.ch d.nx n x = L at *
    have hdi : (dep : Int) ≤ 1000 := by omega
    have hdp : (0 : Int) < (dep : Int) + 1 := by omega
    have hwk : IntKind.i64.wrap (dep : Int) = (dep : Int) := IntWalk.i64_in _ (by omega)
    have HB := Lib.hid hnew
    have HBw := Lib.hid hnew.bw
    clear hW hnew HRL
    unfold worldV at *
    unfold worldC at HK HH HSH HRE hW0
    obtain ⟨b0, b1, b2, b3, b4, b5, b6, b7, b8, b9, bA, bB, bC⟩ := wd13 (HBw.out)
    go_enter Tryz.func37, Tryz.ntmps37
    unfold worldC
    go_wp2_with fail
    clear hW0
    refine (HK.out _ HB.out.bl).mono ?_
    rintro e w1 ⟨v, rfl, g1, g2⟩
    obtain ⟨a, cc, rfl⟩ := g1.shape
    have HIN1 := Lib.hid (g1.ints (by unfold maxLen; omega))
    have HB1 := Lib.hid (HB.out.below g2)
    clear g1 g2 HK HBw HB
    clear b0 b1 b2 b3 b4 b5 b6 b7 b8 b9 bA bB bC
    obtain ⟨m, hm⟩ : ∃ m, L.length = m := ⟨_, rfl⟩
    have HLM := Lib.hid hm
    rw [hm] at HIN1 HM ⊢
    clear hm
    go_wp2_with fail
    go_loopw [7, 9] (fun ov iv wr => ∃ (i j : Nat) (va : Option Addr) (vc : Nat), ov = .slice va j vc ∧ iv = .int .i64 i ∧ i ≤ m ∧ Hid (((L.take i).flatMap part).length = j) ∧ Hid (OwnInts w1.heap.size wr (.slice va j vc) ((L.take i).flatMap part)) ∧ Hid (Below w1.heap.size w1 wr)) (fun _ iv _ => m - (intOf iv).toNat)
    case atStart => exact ⟨0, 0, none, 0, rfl, rfl, Nat.zero_le _, Lib.hid rfl, Lib.hid ⟨World.ownsRow_nil _ _ _ _, fun _ => rfl⟩, Lib.hid (Below.refl _ _)⟩
    case round =>
      obtain ⟨i, j, va, vc, rfl, rfl, hil, HPL, HOW, HBL⟩ := hrel
      have HBR := Lib.hid (HB1.out.below HBL.out)
      by_cases hlt : i < m
      · have HIN := Lib.hid (HIN1.out.below HBL.out)
        have HBRw := Lib.hid HBR.out.bw
        obtain ⟨b0, b1, b2, b3, b4, b5, b6, b7, b8, b9, bA, bB, bC⟩ := wd13 (HBRw.out)
        have hiL : i < L.length := by rw [HLM.out]; exact hlt
        obtain ⟨b, o, ha, hb, hcs⟩ := HIN1.out.at2 (by omega)
        subst ha
        have hci1 := hcs i hiL
        have hci := (HBL.out.cell (p := ⟨b, o + i, none⟩) hb).trans hci1
        have HF := Lib.hid (flat_take (f := part) hiL)
        have hjm : j ≤ 1000 := by rw [← HPL.out]; exact Nat.le_trans (HFL.out i) hfew
        have hjm1 : (L.take (i + 1)).flatMap part = (L.take i).flatMap part ++ part L[i] → j + (part L[i]).length ≤ 1000 := fun e => by
          have h1 := HFL.out (i + 1)
          rw [e, List.length_append, HPL.out] at h1; omega
        have hjm1 := hjm1 HF.out
        generalize L[i] = c at *
        have HHc := Lib.hid (fun w' hb => HH.out c w' hb)
        have HSc := Lib.hid (fun w' hb => HSH.out c w' hb)
        have HRc := Lib.hid (fun w' hb => HRE.out c w' hb)
        have HRcl := Lib.hid (HRLd.out c)
        have hpc := HPA.out c
        generalize part c = pc at *
        generalize hasB d.fl n c 3 = bh at *
        generalize showB d.fl n c = bs at *
        generalize RR c = Rc at *
        have HPC := Lib.hid hpc
        clear hpc hcs
        have hlt0 : w.heap.size < wr.heap.size := HBRw.out.lt
        have hblt : b < wr.heap.size := Nat.lt_of_lt_of_le hb HBL.out.size
        go_wp2_with fail
        refine region_text (fun w' => Below wr.heap.size wr w') (by kernel_rfl) (by kernel_rfl) ((Below.refl _ _).drew) (fun KK hKK => ?_)
        intro OPS
        try simp only [List.append]
        repeat (first
          | (refine' inText_val ?_ ?_ ?_ ?_
             rotate_left 2
             · rfl
             · (intro w' hS; obtain ⟨hcc, hff⟩ := bcell hS; go_simp; first | with_reducible rfl | (rw [if_neg (by omega)]; done) | (rw [if_neg (by omega)]; with_reducible rfl) | (rw [if_pos (by omega)]; done) | (rw [if_pos (by omega)]; with_reducible rfl) | skip)
             · (simp only [Act.put, List.setIfInBounds_toArray, List.set_cons_zero, List.set_cons_succ]; with_reducible rfl))
          | (refine' inText_call ?_ ?_ ?_ ?_ ?_
             rotate_left 4
             · rfl
             · (intro w' hS; obtain ⟨hcc, hff⟩ := bcell hS; go_simp; exact ⟨rfl, rfl⟩)
             · (intro w' hS
                first
                  | ((with_reducible refine (HHc.out w' (bl_then HBR.out.bl hS)).mono ?_); exact fun e w'' h => ⟨h.1, bl_then hS h.2⟩)
                  | ((with_reducible refine (HSc.out w' (bl_then HBR.out.bl hS)).mono ?_); exact fun e w'' h => ⟨h.1, bl_then hS h.2⟩))
             · (simp only [Act.put, List.setIfInBounds_toArray, List.set_cons_zero, List.set_cons_succ]; with_reducible rfl)))
        refine inText_nil (hKK.out _ (fun w2 hS => ?_))
        have HBL2 := Lib.hid (bl_then HBL.out hS)
        have HOW2 := Lib.hid (HOW.out.below hS)
        have hz2 : w1.heap.size ≤ w2.heap.size := HBL2.out.size
        clear hS hKK hci
        clear b0 b1 b2 b3 b4 b5 b6 b7 b8 b9 bA bB bC
        cases bh with
        | true =>
          have HE : Hid ((L.take (i + 1)).flatMap part = (L.take i).flatMap part) := Lib.hid (by rw [HF.out, HPC.out]; simp)
          go_wp2_with fail
          go_roundw
          case rel => exact ⟨i + 1, j, va, vc, rfl, by go_num, by omega, Lib.hid (by rw [HE.out]; exact HPL.out), Lib.hid (by rw [HE.out]; exact HOW2.out), HBL2⟩
          case measure => simp [intOf]; omega
        | false =>
          generalize (L.take i).flatMap part = pre at *
          have hown : w2.ownsRow w1.heap.size 3 1 (.slice va j vc) j (pre.map (Value.int .i64)) := by have := HOW2.out.1; rwa [HPL.out] at this
          have HLO := Lib.hid (ow_lo hown)
          have HWN := Lib.hid (hown.alloc (.cells #[.int .i64 c] 3))
          have HBA := Lib.hid (bl_a HBL2.out (.cells #[.int .i64 c] 3))
          have hci2 := (HBL2.out.cell (p := ⟨b, o + i, none⟩) hb).trans hci1
          have hcA : (w2.alloc (.cells #[.int .i64 c] 3)).cell? ⟨b, o + i, none⟩ = some (.int .i64 c) := (HBA.out.cell (p := ⟨b, o + i, none⟩) hb).trans hci1
          clear hown
          have HCA := Lib.hid hcA
          clear hcA
          go_wp2_with (at_builtin; refine wpList_append_own _ rfl _ _ 23 rfl w1.heap.size 3 i0 (.int .i64 0) 1 8 Tryz.underlying23 hi hi1 hi2 hi3 rfl (by decide) _ j (pre.map (Value.int .i64)) rfl HWN.out ⟨w2.heap.size, 0, none⟩ 1 1 [.int .i64 c] rfl rfl (int_newS _ _ _) (ow_one rfl) (by unfold maxLen; omega) (by omega) (by simp; omega) ?_; intro v3 w3 hown3 hgrow3 _; obtain ⟨g3, cap3, rfl⟩ := ownsRow_succ hown3; have HO3 : Hid (OwnInts w1.heap.size w3 (.slice (some ⟨g3, 0, none⟩) (j + 1) cap3) (pre ++ [c])) := Lib.hid ⟨by rw [List.length_append, HPL.out]; simpa using hown3, fun e => by simp at e⟩; have HB3 := Lib.hid (bl_g HBA.out hgrow3 HLO.out); clear hown3 hgrow3)
          clear hci2
          have HBR := Lib.hid (HB1.out.below HB3.out)
          have HBRw := Lib.hid HBR.out.bw
          obtain ⟨b0, b1, b2, b3, b4, b5, b6, b7, b8, b9, bA, bB, bC⟩ := wd13 (HBRw.out)
          have hci := (HB3.out.cell (p := ⟨b, o + i, none⟩) hb).trans hci1
          have hlt0 : w.heap.size < w3.heap.size := HBRw.out.lt
          have hblt : b < w3.heap.size := Nat.lt_of_lt_of_le hb HB3.out.size
          refine region_text (fun w' => Below w3.heap.size w3 w') (by kernel_rfl) (by kernel_rfl) ((Below.refl _ _).drew) (fun KK hKK => ?_)
          intro OPS
          try simp only [List.append]
          repeat (first
            | (refine' inText_val ?_ ?_ ?_ ?_
               rotate_left 2
               · rfl
               · (intro w' hS; obtain ⟨hcc, hff⟩ := bcell hS; go_simp; first | with_reducible rfl | (rw [if_neg (by omega)]; done) | (rw [if_neg (by omega)]; with_reducible rfl) | (rw [if_pos (by omega)]; done) | (rw [if_pos (by omega)]; with_reducible rfl) | skip)
               · (simp only [Act.put, List.setIfInBounds_toArray, List.set_cons_zero, List.set_cons_succ]; with_reducible rfl))
            | (refine' inText_call ?_ ?_ ?_ ?_ ?_
               rotate_left 4
               · rfl
               · (intro w' hS; obtain ⟨hcc, hff⟩ := bcell hS; go_simp; exact ⟨rfl, rfl⟩)
               · (intro w' hS
                  first
                    | ((with_reducible refine (HHc.out w' (bl_then HBR.out.bl hS)).mono ?_); exact fun e w'' h => ⟨h.1, bl_then hS h.2⟩)
                    | ((with_reducible refine (HSc.out w' (bl_then HBR.out.bl hS)).mono ?_); exact fun e w'' h => ⟨h.1, bl_then hS h.2⟩))
               · (simp only [Act.put, List.setIfInBounds_toArray, List.set_cons_zero, List.set_cons_succ]; with_reducible rfl)))
          refine inText_nil (hKK.out _ (fun w4 hS => ?_))
          have HBL4 := Lib.hid (bl_then HB3.out hS)
          have HOW4 := Lib.hid (HO3.out.below hS)
          have hz4 : w1.heap.size ≤ w4.heap.size := HBL4.out.size
          clear hS hKK hci
          clear b0 b1 b2 b3 b4 b5 b6 b7 b8 b9 bA bB bC
          cases bs with
          | false =>
            have HE : Hid ((L.take (i + 1)).flatMap part = pre ++ [c]) := Lib.hid (by rw [HF.out, HPC.out]; simp)
            go_wp2_with fail
            go_roundw
            case rel => exact ⟨i + 1, j + 1, _, _, rfl, by go_num, by omega, Lib.hid (by rw [HE.out, List.length_append, HPL.out]; rfl), Lib.hid (by rw [HE.out]; exact HOW4.out), HBL4⟩
            case measure => simp [intOf]; omega
          | true =>
            have HE : Hid ((L.take (i + 1)).flatMap part = (pre ++ [c]) ++ Rc) := Lib.hid (by rw [HF.out, HPC.out]; simp)
            have hjR : (j + 1) + Rc.length ≤ 1000 := by
              have hp2 : pc.length = Rc.length + 1 := by rw [HPC.out]; simp
              have hj2 : j + pc.length ≤ 1000 := by assumption
              omega
            have HBR := Lib.hid (HB1.out.below HBL4.out)
            have HBRw := Lib.hid HBR.out.bw
            obtain ⟨b0, b1, b2, b3, b4, b5, b6, b7, b8, b9, bA, bB, bC⟩ := wd13 (HBRw.out)
            have hci := (HBL4.out.cell (p := ⟨b, o + i, none⟩) hb).trans hci1
            have hlt0 : w.heap.size < w4.heap.size := HBRw.out.lt
            have hblt : b < w4.heap.size := Nat.lt_of_lt_of_le hb HBL4.out.size
            go_wp2_with fail
            refine region_mix 8 9 (fun w' => Below w4.heap.size w4 w') (by kernel_rfl) (by kernel_rfl) ((Below.refl _ _).drew) (fun KK hKK => ?_)
            intro OPS
            simp only [List.append, List.take, List.drop, Nat.reduceSub]
            repeat (refine' inRead_val ?_ ?_ ?_ ?_
                    rotate_left 2
                    · rfl
                    · (intro w' hS; obtain ⟨hcc, hff⟩ := bcell hS; go_simp; try with_reducible rfl)
                    · (simp only [Act.put, List.setIfInBounds_toArray, List.set_cons_zero, List.set_cons_succ]; with_reducible rfl))
            refine inRead_nil ?_
            refine' inSeq_call ?_ ?_ ?_
            rotate_left 2
            · rfl
            · go_simp
              exact ⟨rfl, rfl⟩
            refine (HRc.out _ (bl_then HBR.out.bl (Below.refl _ _).drew)).mono ?_
            rintro e w5 ⟨v5, rfl, k1, k2⟩
            have HB5 : Hid (Below w4.heap.size w4 w5) := Lib.hid (bl_then (Below.refl _ _).drew k2)
            have hz5 : w1.heap.size ≤ w5.heap.size := (bl_then HBL4.out HB5.out).size
            have HW5 : Hid (w5.ownsRow w1.heap.size 3 1 (.slice (some ⟨g3, 0, none⟩) (j + 1) cap3) (j + 1) ((pre ++ [c]).map (Value.int .i64))) := Lib.hid (by have := (HOW4.out.below HB5.out).1; rwa [List.length_append, HPL.out] at this)
            have HBL5 := Lib.hid (bl_then HBL4.out HB5.out)
            clear k2 hci
            clear b0 b1 b2 b3 b4 b5 b6 b7 b8 b9 bA bB bC
            refine ⟨_, rfl, HB5.out, ?_⟩
            simp only [Act.put, List.setIfInBounds_toArray, List.set_cons_zero, List.set_cons_succ]
            refine inSeq_nil (hKK.out _ _ ?_)
            simp only [List.drop]
            clear hKK
            by_cases hR : 0 < Rc.length
            · obtain ⟨g5, c5, rfl, hn5⟩ := k1.at3 hR
              clear k1
              at_builtin
              refine wpList_append_own _ rfl _ _ 23 rfl w1.heap.size 3 i0 (.int .i64 0) 1 8 Tryz.underlying23 hi hi1 hi2 hi3 rfl (by decide) _ (j + 1) ((pre ++ [c]).map (Value.int .i64)) rfl HW5.out ⟨g5, 0, none⟩ Rc.length c5 (Rc.map (Value.int .i64)) rfl (by simp) hn5 (by intro u hu; obtain ⟨z, _, rfl⟩ := List.mem_map.1 hu; rfl) (by unfold maxLen; omega) (by omega) (by omega) ?_
              intro v6 w6 hown6 hgrow6 _
              have HB6 := Lib.hid (bl_g HBL5.out hgrow6 (ow_lo HW5.out))
              obtain ⟨r, hr⟩ : ∃ r, Rc.length = r + 1 := ⟨Rc.length - 1, by omega⟩
              have HRL5 := Lib.hid hr
              have hown6' : w6.ownsRow w1.heap.size 3 1 v6 ((j + 1 + r) + 1) ((pre ++ [c]).map (Value.int .i64) ++ Rc.map (Value.int .i64)) := by rwa [hr, ← Nat.add_assoc] at hown6
              obtain ⟨g6, cap6, rfl⟩ := ownsRow_succ hown6'
              have HO6 : Hid (OwnInts w1.heap.size w6 (.slice (some ⟨g6, 0, none⟩) (j + 1 + r + 1) cap6) ((pre ++ [c]) ++ Rc)) := Lib.hid ⟨by rw [List.length_append, List.length_append, HPL.out, HRL5.out, List.map_append]; exact hown6', fun e => by simp at e⟩
              clear hown6 hgrow6 hown6' hr hn5
              go_wp2
              go_roundw
              case rel => exact ⟨i + 1, j + 1 + r + 1, _, _, rfl, by go_num, by omega, Lib.hid (by rw [HE.out, List.length_append, List.length_append, HPL.out, HRL5.out]; rfl), Lib.hid (by rw [HE.out]; exact HO6.out), HB6⟩
              case measure => simp [intOf]; omega
            · have hRn : Rc = [] := List.length_eq_zero_iff.1 (by omega)
              have hv5 := k1.2 hRn
              subst hv5
              clear k1
              at_builtin
              refine wpList_append_own_none rfl _ _ 23 rfl w1.heap.size 3 i0 1 Tryz.underlying23 hi _ (j + 1) ((pre ++ [c]).map (Value.int .i64)) rfl HW5.out rfl ?_
              go_wp2
              go_roundw
              case rel => exact ⟨i + 1, j + 1, _, _, rfl, by go_num, by omega, Lib.hid (by rw [HE.out, hRn, List.append_nil, List.length_append, HPL.out]; rfl), Lib.hid (by rw [HE.out, hRn, List.append_nil]; exact HOW4.out.below HB5.out), HBL5⟩
              case measure => simp [intOf]; omega
      · have HE : Hid (L.flatMap part = (L.take i).flatMap part) := Lib.hid (by rw [List.take_of_length_le (by rw [HLM.out]; omega)])
        have hz1 : w.heap.size ≤ w1.heap.size := HB1.out.bl.size
        go_wp2_with fail
        go_ret
        exact ⟨_, rfl, by rw [HE.out]; exact HOW.out.base (by omega), HBR.out.bl⟩
end Go.Proofs.YtjggklfegcejhaaGreat
