/- Contracts of clewref19's functions over tables, one-sided: the nothing, ways, lines. -/
import Derived.Test.YtjggklfegcejhaaGreatFitsC
import Derived.Test.YtjggklfegcejhaaGreatGrow
namespace Go.Proofs.YtjggklfegcejhaaGreat
open Go.RowKit Go.PlainAid
set_option linter.unusedVariables false
set_option linter.unusedSimpArgs false

theorem wy_open {w : World} {v : Value} {l : List WyC} (h : Reads Cd.wy.sq w v l) (hn : 0 < l.length) :
    ∃ b off cap, v = .slice (some ⟨b, off, none⟩) l.length cap ∧ l.length ≤ cap ∧ b < w.heap.size ∧ ∀ i (hi : i < l.length), w.cell? ⟨b, off + i * 4, none⟩ = some (.int .i64 l[i].dir) ∧ w.cell? ⟨b, off + i * 4 + 1, none⟩ = some (.int .i64 l[i].to) ∧ w.cell? ⟨b, off + i * 4 + 2, none⟩ = some (.int .i64 l[i].wh) ∧ w.cell? ⟨b, off + i * 4 + 3, none⟩ = some (.int .i64 l[i].el) := by
  obtain ⟨b, off, cap, h1, h2, h3, h4⟩ := h.q.open hn
  refine ⟨b, off, cap, h1, h2, h3, fun i hi => ?_⟩
  obtain ⟨row, r1, ⟨r2, r4⟩, r3⟩ := h4 i hi
  subst r2
  exact ⟨r3 0 (by decide), r3 1 (by decide), r3 2 (by decide), r3 3 (by decide)⟩
theorem sl_open {w : World} {v : Value} {l : List SlC} (h : Reads Cd.sl.sq w v l) (hn : 0 < l.length) :
    ∃ b off cap, v = .slice (some ⟨b, off, none⟩) l.length cap ∧ l.length ≤ cap ∧ b < w.heap.size ∧ ∀ i (hi : i < l.length), ∃ u, Reads Cd.ss w u l[i].wd ∧ w.cell? ⟨b, off + i * 2, none⟩ = some (.int .i64 l[i].kd) ∧ w.cell? ⟨b, off + i * 2 + 1, none⟩ = some u := by
  obtain ⟨b, off, cap, h1, h2, h3, h4⟩ := h.q.open hn
  refine ⟨b, off, cap, h1, h2, h3, fun i hi => ?_⟩
  obtain ⟨row, r1, ⟨u, r2, r4, r5⟩, r3⟩ := h4 i hi
  subst r2
  exact ⟨u, r4, r3 0 (by decide), r3 1 (by decide)⟩
set_option maxRecDepth 100000 in
set_option maxHeartbeats 40000000 in
theorem refWays (x : TAd) (t : TbC) (v : Value) (l : List WyC) (w : World) (ht : TabIs w x t) (hv : Reads Cd.wy.sq w v l) :
    Calls Tryz.prog 84 #[tabV x t, v] w (OneW True w) := by
  obtain ⟨a0, c0, hv0, hc0, hm0⟩ := hv.q.len
  subst hv0
  unfold maxLen at hm0
  have HV := Lib.hid hv
  clear hv
  have hm := reads_few ht.th
  have hmt := reads_few ht.tx
  have HB0 := Lib.hid (bl_tab w x t)
  have HK0 : Hid (BK (tabW w x t) w.heap.size (tabC x t) 28) := Lib.hid (BK.new w (tabC x t) 28)
  obtain ⟨W0, hW0⟩ : ∃ W0, tabW w x t = W0 := ⟨_, rfl⟩
  rw [hW0] at HB0 HK0
  unfold tabW tabC at hW0
  unfold tabV tabC
  have HT := Lib.hid (ht.below HB0.out)
  have HW := Lib.hid (HV.out.below HB0.out)
  have HC := Lib.hid (fun n w => refThing x t n w hm)
  have HX := Lib.hid (fun n w => refText x t n true w hmt)
  have HR := Lib.hid (fun n w h => refRoutine x t n true w h)
  unfold tabV tabC at HC HX HR
  unfold maxLen at hm
  clear ht HV hmt
  go_enter Tryz.func84, Tryz.ntmps84
  go_wp2_with fail
  clear hW0
  go_loopw [5] (fun i wr => ∃ (p : Nat), i = .int .i64 p ∧ p ≤ l.length ∧ Hid (Below W0.heap.size W0 wr)) (fun i _ => l.length - (intOf i).toNat)
  case atStart => exact ⟨0, rfl, Nat.zero_le _, Lib.hid (Below.refl _ _)⟩
  case round =>
    obtain ⟨p, rfl, hpl, hB⟩ := hrel
    have HKr := Lib.hid (HK0.out.below hB.out)
    have HBr := Lib.hid (bl_then HB0.out hB.out)
    have HTr := Lib.hid (HT.out.below hB.out)
    by_cases hlt : p < l.length
    · obtain ⟨b, off, cap, hv, hcap, hblt, hcell⟩ := wy_open (HW.out.below hB.out) (by omega)
      have hac : a0 = some ⟨b, off, none⟩ := by simp at hv; exact hv.1
      subst hac
      obtain ⟨e0, e1, e2, e3⟩ := hcell p hlt
      have HP : Hid (∀ q, q + 1 = p → ∃ z, wr.cell? ⟨b, off + q * 4, none⟩ = some (.int .i64 z)) := Lib.hid (fun q hq => ⟨_, (hcell q (by omega)).1⟩)
      generalize l[p].dir = d0 at e0
      generalize l[p].to = d1 at e1
      generalize l[p].wh = d2 at e2
      generalize l[p].el = d3 at e3
      have hk0 : (0 : Int) ≤ (p : Int) := by omega
      have hk1 : (p : Int) < (l.length : Int) := by omega
      have hwlt : w.heap.size < wr.heap.size := HKr.out.lt
      clear hcell hv
      have H1 := Lib.hid (fun w => (refFrom d0 1 12 w).mono fun e w' h => IffB.val h)
      have H2 := Lib.hid (fun w => (HC.out d1 w).mono fun e w' h => IffW.val h)
      have H3 := Lib.hid (fun w h => (HR.out d2 w h).mono fun e w' h => IffW.val h)
      have H4 := Lib.hid (fun w => (HX.out d3 w).mono fun e w' h => IffW.val h)
      have hb2 : pB (ThOk t d1) = true → ThOk t d1 := pB_iff.1
      generalize pB (1 ≤ d0 ∧ d0 ≤ 12) = b1 at H1
      generalize pB (ThOk t d1) = b2 at H2 hb2
      generalize pB (RtOk t d2 true) = b3 at H3
      generalize pB (TxOk t d3 true) = b4 at H4
      have HB2 := Lib.hid hb2
      clear hb2
      obtain ⟨kt0, kt1, kt2, kt3, kt4, kt5, kt6, kt7, kt8, kt9, kt10, kt11, kt12, kt13, kt14⟩ := tab15 (HKr.out)
      rcases Nat.eq_zero_or_pos p with hp0 | hp0
      · subst hp0
        simp only [Nat.zero_mul, Nat.add_zero] at e0 e1 e2 e3
        go_wp2_with fail
        refine region_text (fun w' => Below wr.heap.size wr w') (by kernel_rfl) (by kernel_rfl) ((Below.refl _ _).drew) (fun KK hKK => ?_)
        intro OPS
        try simp only [List.append]
        repeat (first
          | (refine' inText_val ?_ ?_ ?_ ?_
             rotate_left 2
             · rfl
             · (intro w' hS; obtain ⟨hcc, hff⟩ := bcell hS; go_simp; try with_reducible rfl)
             · (simp only [Act.put, List.setIfInBounds_toArray, List.set_cons_zero, List.set_cons_succ]; with_reducible rfl))
          | (refine' inText_skip ?_ ?_ ?_
             rotate_left 1
             · rfl
             · (simp only [Act.put, List.setIfInBounds_toArray, List.set_cons_zero, List.set_cons_succ]; with_reducible rfl))
          | (refine' inText_call ?_ ?_ ?_ ?_ ?_
             rotate_left 4
             · rfl
             · (intro w' hS; obtain ⟨hcc, hff⟩ := bcell hS; go_simp; exact ⟨rfl, rfl⟩)
             · (intro w' hS
                first
                  | (go_at_call 56; exact (H1.out w').mono fun e w'' h => ⟨h.1, by rw [← h.2]; exact hS⟩)
                  | (go_at_call 83; exact (H2.out w').mono fun e w'' h => ⟨h.1, bl_then hS h.2⟩)
                  | (go_at_call 88; exact (H3.out w' (HTr.out.below hS)).mono fun e w'' h => ⟨h.1, bl_then hS h.2⟩)
                  | (go_at_call 79; exact (H4.out w').mono fun e w'' h => ⟨h.1, bl_then hS h.2⟩))
             · (simp only [Act.put, List.setIfInBounds_toArray, List.set_cons_zero, List.set_cons_succ]; with_reducible rfl)))
        cases b1 with
        | false =>
          repeat (first
            | (refine' inText_val ?_ ?_ ?_ ?_
               rotate_left 2
               · rfl
               · (intro w' hS; obtain ⟨hcc, hff⟩ := bcell hS; go_simp; try with_reducible rfl)
               · (simp only [Act.put, List.setIfInBounds_toArray, List.set_cons_zero, List.set_cons_succ]; with_reducible rfl))
            | (refine' inText_skip ?_ ?_ ?_
               rotate_left 1
               · rfl
               · (simp only [Act.put, List.setIfInBounds_toArray, List.set_cons_zero, List.set_cons_succ]; with_reducible rfl))
            | (refine' inText_call ?_ ?_ ?_ ?_ ?_
               rotate_left 4
               · rfl
               · (intro w' hS; obtain ⟨hcc, hff⟩ := bcell hS; go_simp; exact ⟨rfl, rfl⟩)
               · (intro w' hS
                  first
                    | (go_at_call 56; exact (H1.out w').mono fun e w'' h => ⟨h.1, by rw [← h.2]; exact hS⟩)
                    | (go_at_call 83; exact (H2.out w').mono fun e w'' h => ⟨h.1, bl_then hS h.2⟩)
                    | (go_at_call 88; exact (H3.out w' (HTr.out.below hS)).mono fun e w'' h => ⟨h.1, bl_then hS h.2⟩)
                    | (go_at_call 79; exact (H4.out w').mono fun e w'' h => ⟨h.1, bl_then hS h.2⟩))
               · (simp only [Act.put, List.setIfInBounds_toArray, List.set_cons_zero, List.set_cons_succ]; with_reducible rfl)))
          refine inText_nil (hKK.out _ (fun w' hS => ?_))
          have HB9 := Lib.hid (bl_then HBr.out hS)
          have HL9 := Lib.hid (bl_then hB.out hS)
          clear hS hKK
          go_wp2
          first
            | (go_ret; exact OneW.f HB9.out)
            | (go_roundw
               case rel => exact ⟨1, by go_num, by omega, HL9⟩
               case measure => simp [intOf]; omega)
        | true =>
          repeat (first
            | (refine' inText_val ?_ ?_ ?_ ?_
               rotate_left 2
               · rfl
               · (intro w' hS; obtain ⟨hcc, hff⟩ := bcell hS; go_simp; try with_reducible rfl)
               · (simp only [Act.put, List.setIfInBounds_toArray, List.set_cons_zero, List.set_cons_succ]; with_reducible rfl))
            | (refine' inText_skip ?_ ?_ ?_
               rotate_left 1
               · rfl
               · (simp only [Act.put, List.setIfInBounds_toArray, List.set_cons_zero, List.set_cons_succ]; with_reducible rfl))
            | (refine' inText_call ?_ ?_ ?_ ?_ ?_
               rotate_left 4
               · rfl
               · (intro w' hS; obtain ⟨hcc, hff⟩ := bcell hS; go_simp; exact ⟨rfl, rfl⟩)
               · (intro w' hS
                  first
                    | (go_at_call 56; exact (H1.out w').mono fun e w'' h => ⟨h.1, by rw [← h.2]; exact hS⟩)
                    | (go_at_call 83; exact (H2.out w').mono fun e w'' h => ⟨h.1, bl_then hS h.2⟩)
                    | (go_at_call 88; exact (H3.out w' (HTr.out.below hS)).mono fun e w'' h => ⟨h.1, bl_then hS h.2⟩)
                    | (go_at_call 79; exact (H4.out w').mono fun e w'' h => ⟨h.1, bl_then hS h.2⟩))
               · (simp only [Act.put, List.setIfInBounds_toArray, List.set_cons_zero, List.set_cons_succ]; with_reducible rfl)))
          cases b2 with
          | false =>
            repeat (first
              | (refine' inText_val ?_ ?_ ?_ ?_
                 rotate_left 2
                 · rfl
                 · (intro w' hS; obtain ⟨hcc, hff⟩ := bcell hS; go_simp; try with_reducible rfl)
                 · (simp only [Act.put, List.setIfInBounds_toArray, List.set_cons_zero, List.set_cons_succ]; with_reducible rfl))
              | (refine' inText_skip ?_ ?_ ?_
                 rotate_left 1
                 · rfl
                 · (simp only [Act.put, List.setIfInBounds_toArray, List.set_cons_zero, List.set_cons_succ]; with_reducible rfl))
              | (refine' inText_call ?_ ?_ ?_ ?_ ?_
                 rotate_left 4
                 · rfl
                 · (intro w' hS; obtain ⟨hcc, hff⟩ := bcell hS; go_simp; exact ⟨rfl, rfl⟩)
                 · (intro w' hS
                    first
                      | (go_at_call 56; exact (H1.out w').mono fun e w'' h => ⟨h.1, by rw [← h.2]; exact hS⟩)
                      | (go_at_call 83; exact (H2.out w').mono fun e w'' h => ⟨h.1, bl_then hS h.2⟩)
                      | (go_at_call 88; exact (H3.out w' (HTr.out.below hS)).mono fun e w'' h => ⟨h.1, bl_then hS h.2⟩)
                      | (go_at_call 79; exact (H4.out w').mono fun e w'' h => ⟨h.1, bl_then hS h.2⟩))
                 · (simp only [Act.put, List.setIfInBounds_toArray, List.set_cons_zero, List.set_cons_succ]; with_reducible rfl)))
            refine inText_nil (hKK.out _ (fun w' hS => ?_))
            have HB9 := Lib.hid (bl_then HBr.out hS)
            have HL9 := Lib.hid (bl_then hB.out hS)
            clear hS hKK
            go_wp2
            first
              | (go_ret; exact OneW.f HB9.out)
              | (go_roundw
                 case rel => exact ⟨1, by go_num, by omega, HL9⟩
                 case measure => simp [intOf]; omega)
          | true =>
            have htk : ThOk t d1 := HB2.out rfl
            unfold ThOk at htk
            obtain ⟨k, rfl⟩ : ∃ k : Nat, d1 = k := ⟨d1.toNat, by omega⟩
            have hkl : k < t.th.length := by omega
            obtain ⟨b8, off8, cap8, hv8, hcap8, hblt8, hcell8⟩ := th_open HTr.out.th (by omega)
            have hac8 : x.a8 = some ⟨b8, off8, none⟩ := by simp at hv8; exact hv8.1
            obtain ⟨r1, r2, r3, r4, hth, hrow⟩ := hcell8 k hkl
            have e4 := hrow 4 (by decide)
            simp only [thRow, List.getElem?_cons_zero, List.getElem?_cons_succ] at e4
            generalize t.th[k].rm = rm at e4
            have hq0 : (0 : Int) ≤ (k : Int) := by omega
            have hq1 : (k : Int) < (t.th.length : Int) := by omega
            rw [hac8] at kt8 H3 H4
            clear hcell8 hv8 hrow hth hac8 hcap8 htk HB2
            repeat (first
              | (refine' inText_val ?_ ?_ ?_ ?_
                 rotate_left 2
                 · rfl
                 · (intro w' hS; obtain ⟨hcc, hff⟩ := bcell hS; go_simp; try with_reducible rfl)
                 · (simp only [Act.put, List.setIfInBounds_toArray, List.set_cons_zero, List.set_cons_succ]; with_reducible rfl))
              | (refine' inText_skip ?_ ?_ ?_
                 rotate_left 1
                 · rfl
                 · (simp only [Act.put, List.setIfInBounds_toArray, List.set_cons_zero, List.set_cons_succ]; with_reducible rfl))
              | (refine' inText_call ?_ ?_ ?_ ?_ ?_
                 rotate_left 4
                 · rfl
                 · (intro w' hS; obtain ⟨hcc, hff⟩ := bcell hS; go_simp; exact ⟨rfl, rfl⟩)
                 · (intro w' hS
                    first
                      | (go_at_call 56; exact (H1.out w').mono fun e w'' h => ⟨h.1, by rw [← h.2]; exact hS⟩)
                      | (go_at_call 83; exact (H2.out w').mono fun e w'' h => ⟨h.1, bl_then hS h.2⟩)
                      | (go_at_call 88; exact (H3.out w' (HTr.out.below hS)).mono fun e w'' h => ⟨h.1, bl_then hS h.2⟩)
                      | (go_at_call 79; exact (H4.out w').mono fun e w'' h => ⟨h.1, bl_then hS h.2⟩))
                 · (simp only [Act.put, List.setIfInBounds_toArray, List.set_cons_zero, List.set_cons_succ]; with_reducible rfl)))
            cases rm with
            | false =>
              repeat (first
                | (refine' inText_val ?_ ?_ ?_ ?_
                   rotate_left 2
                   · rfl
                   · (intro w' hS; obtain ⟨hcc, hff⟩ := bcell hS; go_simp; try with_reducible rfl)
                   · (simp only [Act.put, List.setIfInBounds_toArray, List.set_cons_zero, List.set_cons_succ]; with_reducible rfl))
                | (refine' inText_skip ?_ ?_ ?_
                   rotate_left 1
                   · rfl
                   · (simp only [Act.put, List.setIfInBounds_toArray, List.set_cons_zero, List.set_cons_succ]; with_reducible rfl))
                | (refine' inText_call ?_ ?_ ?_ ?_ ?_
                   rotate_left 4
                   · rfl
                   · (intro w' hS; obtain ⟨hcc, hff⟩ := bcell hS; go_simp; exact ⟨rfl, rfl⟩)
                   · (intro w' hS
                      first
                        | (go_at_call 56; exact (H1.out w').mono fun e w'' h => ⟨h.1, by rw [← h.2]; exact hS⟩)
                        | (go_at_call 83; exact (H2.out w').mono fun e w'' h => ⟨h.1, bl_then hS h.2⟩)
                        | (go_at_call 88; exact (H3.out w' (HTr.out.below hS)).mono fun e w'' h => ⟨h.1, bl_then hS h.2⟩)
                        | (go_at_call 79; exact (H4.out w').mono fun e w'' h => ⟨h.1, bl_then hS h.2⟩))
                   · (simp only [Act.put, List.setIfInBounds_toArray, List.set_cons_zero, List.set_cons_succ]; with_reducible rfl)))
              refine inText_nil (hKK.out _ (fun w' hS => ?_))
              have HB9 := Lib.hid (bl_then HBr.out hS)
              have HL9 := Lib.hid (bl_then hB.out hS)
              clear hS hKK
              go_wp2
              first
                | (go_ret; exact OneW.f HB9.out)
                | (go_roundw
                   case rel => exact ⟨1, by go_num, by omega, HL9⟩
                   case measure => simp [intOf]; omega)
            | true =>
              repeat (first
                | (refine' inText_val ?_ ?_ ?_ ?_
                   rotate_left 2
                   · rfl
                   · (intro w' hS; obtain ⟨hcc, hff⟩ := bcell hS; go_simp; try with_reducible rfl)
                   · (simp only [Act.put, List.setIfInBounds_toArray, List.set_cons_zero, List.set_cons_succ]; with_reducible rfl))
                | (refine' inText_skip ?_ ?_ ?_
                   rotate_left 1
                   · rfl
                   · (simp only [Act.put, List.setIfInBounds_toArray, List.set_cons_zero, List.set_cons_succ]; with_reducible rfl))
                | (refine' inText_call ?_ ?_ ?_ ?_ ?_
                   rotate_left 4
                   · rfl
                   · (intro w' hS; obtain ⟨hcc, hff⟩ := bcell hS; go_simp; exact ⟨rfl, rfl⟩)
                   · (intro w' hS
                      first
                        | (go_at_call 56; exact (H1.out w').mono fun e w'' h => ⟨h.1, by rw [← h.2]; exact hS⟩)
                        | (go_at_call 83; exact (H2.out w').mono fun e w'' h => ⟨h.1, bl_then hS h.2⟩)
                        | (go_at_call 88; exact (H3.out w' (HTr.out.below hS)).mono fun e w'' h => ⟨h.1, bl_then hS h.2⟩)
                        | (go_at_call 79; exact (H4.out w').mono fun e w'' h => ⟨h.1, bl_then hS h.2⟩))
                   · (simp only [Act.put, List.setIfInBounds_toArray, List.set_cons_zero, List.set_cons_succ]; with_reducible rfl)))
              cases b3 with
              | false =>
                repeat (first
                  | (refine' inText_val ?_ ?_ ?_ ?_
                     rotate_left 2
                     · rfl
                     · (intro w' hS; obtain ⟨hcc, hff⟩ := bcell hS; go_simp; try with_reducible rfl)
                     · (simp only [Act.put, List.setIfInBounds_toArray, List.set_cons_zero, List.set_cons_succ]; with_reducible rfl))
                  | (refine' inText_skip ?_ ?_ ?_
                     rotate_left 1
                     · rfl
                     · (simp only [Act.put, List.setIfInBounds_toArray, List.set_cons_zero, List.set_cons_succ]; with_reducible rfl))
                  | (refine' inText_call ?_ ?_ ?_ ?_ ?_
                     rotate_left 4
                     · rfl
                     · (intro w' hS; obtain ⟨hcc, hff⟩ := bcell hS; go_simp; exact ⟨rfl, rfl⟩)
                     · (intro w' hS
                        first
                          | (go_at_call 56; exact (H1.out w').mono fun e w'' h => ⟨h.1, by rw [← h.2]; exact hS⟩)
                          | (go_at_call 83; exact (H2.out w').mono fun e w'' h => ⟨h.1, bl_then hS h.2⟩)
                          | (go_at_call 88; exact (H3.out w' (HTr.out.below hS)).mono fun e w'' h => ⟨h.1, bl_then hS h.2⟩)
                          | (go_at_call 79; exact (H4.out w').mono fun e w'' h => ⟨h.1, bl_then hS h.2⟩))
                     · (simp only [Act.put, List.setIfInBounds_toArray, List.set_cons_zero, List.set_cons_succ]; with_reducible rfl)))
                refine inText_nil (hKK.out _ (fun w' hS => ?_))
                have HB9 := Lib.hid (bl_then HBr.out hS)
                have HL9 := Lib.hid (bl_then hB.out hS)
                clear hS hKK
                go_wp2
                first
                  | (go_ret; exact OneW.f HB9.out)
                  | (go_roundw
                     case rel => exact ⟨1, by go_num, by omega, HL9⟩
                     case measure => simp [intOf]; omega)
              | true =>
                repeat (first
                  | (refine' inText_val ?_ ?_ ?_ ?_
                     rotate_left 2
                     · rfl
                     · (intro w' hS; obtain ⟨hcc, hff⟩ := bcell hS; go_simp; try with_reducible rfl)
                     · (simp only [Act.put, List.setIfInBounds_toArray, List.set_cons_zero, List.set_cons_succ]; with_reducible rfl))
                  | (refine' inText_skip ?_ ?_ ?_
                     rotate_left 1
                     · rfl
                     · (simp only [Act.put, List.setIfInBounds_toArray, List.set_cons_zero, List.set_cons_succ]; with_reducible rfl))
                  | (refine' inText_call ?_ ?_ ?_ ?_ ?_
                     rotate_left 4
                     · rfl
                     · (intro w' hS; obtain ⟨hcc, hff⟩ := bcell hS; go_simp; exact ⟨rfl, rfl⟩)
                     · (intro w' hS
                        first
                          | (go_at_call 56; exact (H1.out w').mono fun e w'' h => ⟨h.1, by rw [← h.2]; exact hS⟩)
                          | (go_at_call 83; exact (H2.out w').mono fun e w'' h => ⟨h.1, bl_then hS h.2⟩)
                          | (go_at_call 88; exact (H3.out w' (HTr.out.below hS)).mono fun e w'' h => ⟨h.1, bl_then hS h.2⟩)
                          | (go_at_call 79; exact (H4.out w').mono fun e w'' h => ⟨h.1, bl_then hS h.2⟩))
                     · (simp only [Act.put, List.setIfInBounds_toArray, List.set_cons_zero, List.set_cons_succ]; with_reducible rfl)))
                cases b4 with
                | false =>
                  repeat (first
                    | (refine' inText_val ?_ ?_ ?_ ?_
                       rotate_left 2
                       · rfl
                       · (intro w' hS; obtain ⟨hcc, hff⟩ := bcell hS; go_simp; try with_reducible rfl)
                       · (simp only [Act.put, List.setIfInBounds_toArray, List.set_cons_zero, List.set_cons_succ]; with_reducible rfl))
                    | (refine' inText_skip ?_ ?_ ?_
                       rotate_left 1
                       · rfl
                       · (simp only [Act.put, List.setIfInBounds_toArray, List.set_cons_zero, List.set_cons_succ]; with_reducible rfl))
                    | (refine' inText_call ?_ ?_ ?_ ?_ ?_
                       rotate_left 4
                       · rfl
                       · (intro w' hS; obtain ⟨hcc, hff⟩ := bcell hS; go_simp; exact ⟨rfl, rfl⟩)
                       · (intro w' hS
                          first
                            | (go_at_call 56; exact (H1.out w').mono fun e w'' h => ⟨h.1, by rw [← h.2]; exact hS⟩)
                            | (go_at_call 83; exact (H2.out w').mono fun e w'' h => ⟨h.1, bl_then hS h.2⟩)
                            | (go_at_call 88; exact (H3.out w' (HTr.out.below hS)).mono fun e w'' h => ⟨h.1, bl_then hS h.2⟩)
                            | (go_at_call 79; exact (H4.out w').mono fun e w'' h => ⟨h.1, bl_then hS h.2⟩))
                       · (simp only [Act.put, List.setIfInBounds_toArray, List.set_cons_zero, List.set_cons_succ]; with_reducible rfl)))
                  refine inText_nil (hKK.out _ (fun w' hS => ?_))
                  have HB9 := Lib.hid (bl_then HBr.out hS)
                  have HL9 := Lib.hid (bl_then hB.out hS)
                  clear hS hKK
                  go_wp2
                  first
                    | (go_ret; exact OneW.f HB9.out)
                    | (go_roundw
                       case rel => exact ⟨1, by go_num, by omega, HL9⟩
                       case measure => simp [intOf]; omega)
                | true =>
                  repeat (first
                    | (refine' inText_val ?_ ?_ ?_ ?_
                       rotate_left 2
                       · rfl
                       · (intro w' hS; obtain ⟨hcc, hff⟩ := bcell hS; go_simp; try with_reducible rfl)
                       · (simp only [Act.put, List.setIfInBounds_toArray, List.set_cons_zero, List.set_cons_succ]; with_reducible rfl))
                    | (refine' inText_skip ?_ ?_ ?_
                       rotate_left 1
                       · rfl
                       · (simp only [Act.put, List.setIfInBounds_toArray, List.set_cons_zero, List.set_cons_succ]; with_reducible rfl))
                    | (refine' inText_call ?_ ?_ ?_ ?_ ?_
                       rotate_left 4
                       · rfl
                       · (intro w' hS; obtain ⟨hcc, hff⟩ := bcell hS; go_simp; exact ⟨rfl, rfl⟩)
                       · (intro w' hS
                          first
                            | (go_at_call 56; exact (H1.out w').mono fun e w'' h => ⟨h.1, by rw [← h.2]; exact hS⟩)
                            | (go_at_call 83; exact (H2.out w').mono fun e w'' h => ⟨h.1, bl_then hS h.2⟩)
                            | (go_at_call 88; exact (H3.out w' (HTr.out.below hS)).mono fun e w'' h => ⟨h.1, bl_then hS h.2⟩)
                            | (go_at_call 79; exact (H4.out w').mono fun e w'' h => ⟨h.1, bl_then hS h.2⟩))
                       · (simp only [Act.put, List.setIfInBounds_toArray, List.set_cons_zero, List.set_cons_succ]; with_reducible rfl)))
                  refine inText_nil (hKK.out _ (fun w' hS => ?_))
                  have HB9 := Lib.hid (bl_then HBr.out hS)
                  have HL9 := Lib.hid (bl_then hB.out hS)
                  clear hS hKK
                  go_wp2
                  first
                    | (go_ret; exact OneW.f HB9.out)
                    | (go_roundw
                       case rel => exact ⟨1, by go_num, by omega, HL9⟩
                       case measure => simp [intOf]; omega)
      · obtain ⟨q, hq⟩ : ∃ q, q + 1 = p := ⟨p - 1, by omega⟩
        obtain ⟨z, hz⟩ := HP.out q hq
        have hsub : IntKind.i64.wrap ((p : Int) - 1) = (q : Int) := by rw [IntWalk.i64_in _ (by omega)]; omega
        have hk2 : (0 : Int) ≤ (q : Int) := by omega
        have hk3 : (q : Int) < (l.length : Int) := by omega
        have hk4 : (0 : Int) < (p : Int) := by omega
        have hk5 : decide ((0 : Int) < (p : Int)) = true := by simpa using hk4
        clear HP
        go_wp2_with fail
        refine region_text (fun w' => Below wr.heap.size wr w') (by kernel_rfl) (by kernel_rfl) ((Below.refl _ _).drew) (fun KK hKK => ?_)
        intro OPS
        try simp only [List.append]
        repeat (first
          | (refine' inText_val ?_ ?_ ?_ ?_
             rotate_left 2
             · rfl
             · (intro w' hS; obtain ⟨hcc, hff⟩ := bcell hS; go_simp; try with_reducible rfl)
             · (simp only [Act.put, List.setIfInBounds_toArray, List.set_cons_zero, List.set_cons_succ]; with_reducible rfl))
          | (refine' inText_skip ?_ ?_ ?_
             rotate_left 1
             · rfl
             · (simp only [Act.put, List.setIfInBounds_toArray, List.set_cons_zero, List.set_cons_succ]; with_reducible rfl))
          | (refine' inText_call ?_ ?_ ?_ ?_ ?_
             rotate_left 4
             · rfl
             · (intro w' hS; obtain ⟨hcc, hff⟩ := bcell hS; go_simp; exact ⟨rfl, rfl⟩)
             · (intro w' hS
                first
                  | (go_at_call 56; exact (H1.out w').mono fun e w'' h => ⟨h.1, by rw [← h.2]; exact hS⟩)
                  | (go_at_call 83; exact (H2.out w').mono fun e w'' h => ⟨h.1, bl_then hS h.2⟩)
                  | (go_at_call 88; exact (H3.out w' (HTr.out.below hS)).mono fun e w'' h => ⟨h.1, bl_then hS h.2⟩)
                  | (go_at_call 79; exact (H4.out w').mono fun e w'' h => ⟨h.1, bl_then hS h.2⟩))
             · (simp only [Act.put, List.setIfInBounds_toArray, List.set_cons_zero, List.set_cons_succ]; with_reducible rfl)))
        cases b1 with
        | false =>
          repeat (first
            | (refine' inText_val ?_ ?_ ?_ ?_
               rotate_left 2
               · rfl
               · (intro w' hS; obtain ⟨hcc, hff⟩ := bcell hS; go_simp; try with_reducible rfl)
               · (simp only [Act.put, List.setIfInBounds_toArray, List.set_cons_zero, List.set_cons_succ]; with_reducible rfl))
            | (refine' inText_skip ?_ ?_ ?_
               rotate_left 1
               · rfl
               · (simp only [Act.put, List.setIfInBounds_toArray, List.set_cons_zero, List.set_cons_succ]; with_reducible rfl))
            | (refine' inText_call ?_ ?_ ?_ ?_ ?_
               rotate_left 4
               · rfl
               · (intro w' hS; obtain ⟨hcc, hff⟩ := bcell hS; go_simp; exact ⟨rfl, rfl⟩)
               · (intro w' hS
                  first
                    | (go_at_call 56; exact (H1.out w').mono fun e w'' h => ⟨h.1, by rw [← h.2]; exact hS⟩)
                    | (go_at_call 83; exact (H2.out w').mono fun e w'' h => ⟨h.1, bl_then hS h.2⟩)
                    | (go_at_call 88; exact (H3.out w' (HTr.out.below hS)).mono fun e w'' h => ⟨h.1, bl_then hS h.2⟩)
                    | (go_at_call 79; exact (H4.out w').mono fun e w'' h => ⟨h.1, bl_then hS h.2⟩))
               · (simp only [Act.put, List.setIfInBounds_toArray, List.set_cons_zero, List.set_cons_succ]; with_reducible rfl)))
          refine inText_nil (hKK.out _ (fun w' hS => ?_))
          have HB9 := Lib.hid (bl_then HBr.out hS)
          have HL9 := Lib.hid (bl_then hB.out hS)
          clear hS hKK
          go_wp2
          first
            | (go_ret; exact OneW.f HB9.out)
            | (go_roundw
               case rel => exact ⟨p + 1, by go_num, by omega, HL9⟩
               case measure => simp [intOf]; omega)
        | true =>
          repeat (first
            | (refine' inText_val ?_ ?_ ?_ ?_
               rotate_left 2
               · rfl
               · (intro w' hS; obtain ⟨hcc, hff⟩ := bcell hS; go_simp; try with_reducible rfl)
               · (simp only [Act.put, List.setIfInBounds_toArray, List.set_cons_zero, List.set_cons_succ]; with_reducible rfl))
            | (refine' inText_skip ?_ ?_ ?_
               rotate_left 1
               · rfl
               · (simp only [Act.put, List.setIfInBounds_toArray, List.set_cons_zero, List.set_cons_succ]; with_reducible rfl))
            | (refine' inText_call ?_ ?_ ?_ ?_ ?_
               rotate_left 4
               · rfl
               · (intro w' hS; obtain ⟨hcc, hff⟩ := bcell hS; go_simp; exact ⟨rfl, rfl⟩)
               · (intro w' hS
                  first
                    | (go_at_call 56; exact (H1.out w').mono fun e w'' h => ⟨h.1, by rw [← h.2]; exact hS⟩)
                    | (go_at_call 83; exact (H2.out w').mono fun e w'' h => ⟨h.1, bl_then hS h.2⟩)
                    | (go_at_call 88; exact (H3.out w' (HTr.out.below hS)).mono fun e w'' h => ⟨h.1, bl_then hS h.2⟩)
                    | (go_at_call 79; exact (H4.out w').mono fun e w'' h => ⟨h.1, bl_then hS h.2⟩))
               · (simp only [Act.put, List.setIfInBounds_toArray, List.set_cons_zero, List.set_cons_succ]; with_reducible rfl)))
          generalize decide (d0 ≤ z) = bz
          cases bz with
          | true =>
            repeat (first
              | (refine' inText_val ?_ ?_ ?_ ?_
                 rotate_left 2
                 · rfl
                 · (intro w' hS; obtain ⟨hcc, hff⟩ := bcell hS; go_simp; try with_reducible rfl)
                 · (simp only [Act.put, List.setIfInBounds_toArray, List.set_cons_zero, List.set_cons_succ]; with_reducible rfl))
              | (refine' inText_skip ?_ ?_ ?_
                 rotate_left 1
                 · rfl
                 · (simp only [Act.put, List.setIfInBounds_toArray, List.set_cons_zero, List.set_cons_succ]; with_reducible rfl))
              | (refine' inText_call ?_ ?_ ?_ ?_ ?_
                 rotate_left 4
                 · rfl
                 · (intro w' hS; obtain ⟨hcc, hff⟩ := bcell hS; go_simp; exact ⟨rfl, rfl⟩)
                 · (intro w' hS
                    first
                      | (go_at_call 56; exact (H1.out w').mono fun e w'' h => ⟨h.1, by rw [← h.2]; exact hS⟩)
                      | (go_at_call 83; exact (H2.out w').mono fun e w'' h => ⟨h.1, bl_then hS h.2⟩)
                      | (go_at_call 88; exact (H3.out w' (HTr.out.below hS)).mono fun e w'' h => ⟨h.1, bl_then hS h.2⟩)
                      | (go_at_call 79; exact (H4.out w').mono fun e w'' h => ⟨h.1, bl_then hS h.2⟩))
                 · (simp only [Act.put, List.setIfInBounds_toArray, List.set_cons_zero, List.set_cons_succ]; with_reducible rfl)))
            refine inText_nil (hKK.out _ (fun w' hS => ?_))
            have HB9 := Lib.hid (bl_then HBr.out hS)
            have HL9 := Lib.hid (bl_then hB.out hS)
            clear hS hKK
            go_wp2
            first
              | (go_ret; exact OneW.f HB9.out)
              | (go_roundw
                 case rel => exact ⟨p + 1, by go_num, by omega, HL9⟩
                 case measure => simp [intOf]; omega)
          | false =>
            repeat (first
              | (refine' inText_val ?_ ?_ ?_ ?_
                 rotate_left 2
                 · rfl
                 · (intro w' hS; obtain ⟨hcc, hff⟩ := bcell hS; go_simp; try with_reducible rfl)
                 · (simp only [Act.put, List.setIfInBounds_toArray, List.set_cons_zero, List.set_cons_succ]; with_reducible rfl))
              | (refine' inText_skip ?_ ?_ ?_
                 rotate_left 1
                 · rfl
                 · (simp only [Act.put, List.setIfInBounds_toArray, List.set_cons_zero, List.set_cons_succ]; with_reducible rfl))
              | (refine' inText_call ?_ ?_ ?_ ?_ ?_
                 rotate_left 4
                 · rfl
                 · (intro w' hS; obtain ⟨hcc, hff⟩ := bcell hS; go_simp; exact ⟨rfl, rfl⟩)
                 · (intro w' hS
                    first
                      | (go_at_call 56; exact (H1.out w').mono fun e w'' h => ⟨h.1, by rw [← h.2]; exact hS⟩)
                      | (go_at_call 83; exact (H2.out w').mono fun e w'' h => ⟨h.1, bl_then hS h.2⟩)
                      | (go_at_call 88; exact (H3.out w' (HTr.out.below hS)).mono fun e w'' h => ⟨h.1, bl_then hS h.2⟩)
                      | (go_at_call 79; exact (H4.out w').mono fun e w'' h => ⟨h.1, bl_then hS h.2⟩))
                 · (simp only [Act.put, List.setIfInBounds_toArray, List.set_cons_zero, List.set_cons_succ]; with_reducible rfl)))
            cases b2 with
            | false =>
              repeat (first
                | (refine' inText_val ?_ ?_ ?_ ?_
                   rotate_left 2
                   · rfl
                   · (intro w' hS; obtain ⟨hcc, hff⟩ := bcell hS; go_simp; try with_reducible rfl)
                   · (simp only [Act.put, List.setIfInBounds_toArray, List.set_cons_zero, List.set_cons_succ]; with_reducible rfl))
                | (refine' inText_skip ?_ ?_ ?_
                   rotate_left 1
                   · rfl
                   · (simp only [Act.put, List.setIfInBounds_toArray, List.set_cons_zero, List.set_cons_succ]; with_reducible rfl))
                | (refine' inText_call ?_ ?_ ?_ ?_ ?_
                   rotate_left 4
                   · rfl
                   · (intro w' hS; obtain ⟨hcc, hff⟩ := bcell hS; go_simp; exact ⟨rfl, rfl⟩)
                   · (intro w' hS
                      first
                        | (go_at_call 56; exact (H1.out w').mono fun e w'' h => ⟨h.1, by rw [← h.2]; exact hS⟩)
                        | (go_at_call 83; exact (H2.out w').mono fun e w'' h => ⟨h.1, bl_then hS h.2⟩)
                        | (go_at_call 88; exact (H3.out w' (HTr.out.below hS)).mono fun e w'' h => ⟨h.1, bl_then hS h.2⟩)
                        | (go_at_call 79; exact (H4.out w').mono fun e w'' h => ⟨h.1, bl_then hS h.2⟩))
                   · (simp only [Act.put, List.setIfInBounds_toArray, List.set_cons_zero, List.set_cons_succ]; with_reducible rfl)))
              refine inText_nil (hKK.out _ (fun w' hS => ?_))
              have HB9 := Lib.hid (bl_then HBr.out hS)
              have HL9 := Lib.hid (bl_then hB.out hS)
              clear hS hKK
              go_wp2
              first
                | (go_ret; exact OneW.f HB9.out)
                | (go_roundw
                   case rel => exact ⟨p + 1, by go_num, by omega, HL9⟩
                   case measure => simp [intOf]; omega)
            | true =>
              have htk : ThOk t d1 := HB2.out rfl
              unfold ThOk at htk
              obtain ⟨k, rfl⟩ : ∃ k : Nat, d1 = k := ⟨d1.toNat, by omega⟩
              have hkl : k < t.th.length := by omega
              obtain ⟨b8, off8, cap8, hv8, hcap8, hblt8, hcell8⟩ := th_open HTr.out.th (by omega)
              have hac8 : x.a8 = some ⟨b8, off8, none⟩ := by simp at hv8; exact hv8.1
              obtain ⟨r1, r2, r3, r4, hth, hrow⟩ := hcell8 k hkl
              have e4 := hrow 4 (by decide)
              simp only [thRow, List.getElem?_cons_zero, List.getElem?_cons_succ] at e4
              generalize t.th[k].rm = rm at e4
              have hq0 : (0 : Int) ≤ (k : Int) := by omega
              have hq1 : (k : Int) < (t.th.length : Int) := by omega
              rw [hac8] at kt8 H3 H4
              clear hcell8 hv8 hrow hth hac8 hcap8 htk HB2
              repeat (first
                | (refine' inText_val ?_ ?_ ?_ ?_
                   rotate_left 2
                   · rfl
                   · (intro w' hS; obtain ⟨hcc, hff⟩ := bcell hS; go_simp; try with_reducible rfl)
                   · (simp only [Act.put, List.setIfInBounds_toArray, List.set_cons_zero, List.set_cons_succ]; with_reducible rfl))
                | (refine' inText_skip ?_ ?_ ?_
                   rotate_left 1
                   · rfl
                   · (simp only [Act.put, List.setIfInBounds_toArray, List.set_cons_zero, List.set_cons_succ]; with_reducible rfl))
                | (refine' inText_call ?_ ?_ ?_ ?_ ?_
                   rotate_left 4
                   · rfl
                   · (intro w' hS; obtain ⟨hcc, hff⟩ := bcell hS; go_simp; exact ⟨rfl, rfl⟩)
                   · (intro w' hS
                      first
                        | (go_at_call 56; exact (H1.out w').mono fun e w'' h => ⟨h.1, by rw [← h.2]; exact hS⟩)
                        | (go_at_call 83; exact (H2.out w').mono fun e w'' h => ⟨h.1, bl_then hS h.2⟩)
                        | (go_at_call 88; exact (H3.out w' (HTr.out.below hS)).mono fun e w'' h => ⟨h.1, bl_then hS h.2⟩)
                        | (go_at_call 79; exact (H4.out w').mono fun e w'' h => ⟨h.1, bl_then hS h.2⟩))
                   · (simp only [Act.put, List.setIfInBounds_toArray, List.set_cons_zero, List.set_cons_succ]; with_reducible rfl)))
              cases rm with
              | false =>
                repeat (first
                  | (refine' inText_val ?_ ?_ ?_ ?_
                     rotate_left 2
                     · rfl
                     · (intro w' hS; obtain ⟨hcc, hff⟩ := bcell hS; go_simp; try with_reducible rfl)
                     · (simp only [Act.put, List.setIfInBounds_toArray, List.set_cons_zero, List.set_cons_succ]; with_reducible rfl))
                  | (refine' inText_skip ?_ ?_ ?_
                     rotate_left 1
                     · rfl
                     · (simp only [Act.put, List.setIfInBounds_toArray, List.set_cons_zero, List.set_cons_succ]; with_reducible rfl))
                  | (refine' inText_call ?_ ?_ ?_ ?_ ?_
                     rotate_left 4
                     · rfl
                     · (intro w' hS; obtain ⟨hcc, hff⟩ := bcell hS; go_simp; exact ⟨rfl, rfl⟩)
                     · (intro w' hS
                        first
                          | (go_at_call 56; exact (H1.out w').mono fun e w'' h => ⟨h.1, by rw [← h.2]; exact hS⟩)
                          | (go_at_call 83; exact (H2.out w').mono fun e w'' h => ⟨h.1, bl_then hS h.2⟩)
                          | (go_at_call 88; exact (H3.out w' (HTr.out.below hS)).mono fun e w'' h => ⟨h.1, bl_then hS h.2⟩)
                          | (go_at_call 79; exact (H4.out w').mono fun e w'' h => ⟨h.1, bl_then hS h.2⟩))
                     · (simp only [Act.put, List.setIfInBounds_toArray, List.set_cons_zero, List.set_cons_succ]; with_reducible rfl)))
                refine inText_nil (hKK.out _ (fun w' hS => ?_))
                have HB9 := Lib.hid (bl_then HBr.out hS)
                have HL9 := Lib.hid (bl_then hB.out hS)
                clear hS hKK
                go_wp2
                first
                  | (go_ret; exact OneW.f HB9.out)
                  | (go_roundw
                     case rel => exact ⟨p + 1, by go_num, by omega, HL9⟩
                     case measure => simp [intOf]; omega)
              | true =>
                repeat (first
                  | (refine' inText_val ?_ ?_ ?_ ?_
                     rotate_left 2
                     · rfl
                     · (intro w' hS; obtain ⟨hcc, hff⟩ := bcell hS; go_simp; try with_reducible rfl)
                     · (simp only [Act.put, List.setIfInBounds_toArray, List.set_cons_zero, List.set_cons_succ]; with_reducible rfl))
                  | (refine' inText_skip ?_ ?_ ?_
                     rotate_left 1
                     · rfl
                     · (simp only [Act.put, List.setIfInBounds_toArray, List.set_cons_zero, List.set_cons_succ]; with_reducible rfl))
                  | (refine' inText_call ?_ ?_ ?_ ?_ ?_
                     rotate_left 4
                     · rfl
                     · (intro w' hS; obtain ⟨hcc, hff⟩ := bcell hS; go_simp; exact ⟨rfl, rfl⟩)
                     · (intro w' hS
                        first
                          | (go_at_call 56; exact (H1.out w').mono fun e w'' h => ⟨h.1, by rw [← h.2]; exact hS⟩)
                          | (go_at_call 83; exact (H2.out w').mono fun e w'' h => ⟨h.1, bl_then hS h.2⟩)
                          | (go_at_call 88; exact (H3.out w' (HTr.out.below hS)).mono fun e w'' h => ⟨h.1, bl_then hS h.2⟩)
                          | (go_at_call 79; exact (H4.out w').mono fun e w'' h => ⟨h.1, bl_then hS h.2⟩))
                     · (simp only [Act.put, List.setIfInBounds_toArray, List.set_cons_zero, List.set_cons_succ]; with_reducible rfl)))
                cases b3 with
                | false =>
                  repeat (first
                    | (refine' inText_val ?_ ?_ ?_ ?_
                       rotate_left 2
                       · rfl
                       · (intro w' hS; obtain ⟨hcc, hff⟩ := bcell hS; go_simp; try with_reducible rfl)
                       · (simp only [Act.put, List.setIfInBounds_toArray, List.set_cons_zero, List.set_cons_succ]; with_reducible rfl))
                    | (refine' inText_skip ?_ ?_ ?_
                       rotate_left 1
                       · rfl
                       · (simp only [Act.put, List.setIfInBounds_toArray, List.set_cons_zero, List.set_cons_succ]; with_reducible rfl))
                    | (refine' inText_call ?_ ?_ ?_ ?_ ?_
                       rotate_left 4
                       · rfl
                       · (intro w' hS; obtain ⟨hcc, hff⟩ := bcell hS; go_simp; exact ⟨rfl, rfl⟩)
                       · (intro w' hS
                          first
                            | (go_at_call 56; exact (H1.out w').mono fun e w'' h => ⟨h.1, by rw [← h.2]; exact hS⟩)
                            | (go_at_call 83; exact (H2.out w').mono fun e w'' h => ⟨h.1, bl_then hS h.2⟩)
                            | (go_at_call 88; exact (H3.out w' (HTr.out.below hS)).mono fun e w'' h => ⟨h.1, bl_then hS h.2⟩)
                            | (go_at_call 79; exact (H4.out w').mono fun e w'' h => ⟨h.1, bl_then hS h.2⟩))
                       · (simp only [Act.put, List.setIfInBounds_toArray, List.set_cons_zero, List.set_cons_succ]; with_reducible rfl)))
                  refine inText_nil (hKK.out _ (fun w' hS => ?_))
                  have HB9 := Lib.hid (bl_then HBr.out hS)
                  have HL9 := Lib.hid (bl_then hB.out hS)
                  clear hS hKK
                  go_wp2
                  first
                    | (go_ret; exact OneW.f HB9.out)
                    | (go_roundw
                       case rel => exact ⟨p + 1, by go_num, by omega, HL9⟩
                       case measure => simp [intOf]; omega)
                | true =>
                  repeat (first
                    | (refine' inText_val ?_ ?_ ?_ ?_
                       rotate_left 2
                       · rfl
                       · (intro w' hS; obtain ⟨hcc, hff⟩ := bcell hS; go_simp; try with_reducible rfl)
                       · (simp only [Act.put, List.setIfInBounds_toArray, List.set_cons_zero, List.set_cons_succ]; with_reducible rfl))
                    | (refine' inText_skip ?_ ?_ ?_
                       rotate_left 1
                       · rfl
                       · (simp only [Act.put, List.setIfInBounds_toArray, List.set_cons_zero, List.set_cons_succ]; with_reducible rfl))
                    | (refine' inText_call ?_ ?_ ?_ ?_ ?_
                       rotate_left 4
                       · rfl
                       · (intro w' hS; obtain ⟨hcc, hff⟩ := bcell hS; go_simp; exact ⟨rfl, rfl⟩)
                       · (intro w' hS
                          first
                            | (go_at_call 56; exact (H1.out w').mono fun e w'' h => ⟨h.1, by rw [← h.2]; exact hS⟩)
                            | (go_at_call 83; exact (H2.out w').mono fun e w'' h => ⟨h.1, bl_then hS h.2⟩)
                            | (go_at_call 88; exact (H3.out w' (HTr.out.below hS)).mono fun e w'' h => ⟨h.1, bl_then hS h.2⟩)
                            | (go_at_call 79; exact (H4.out w').mono fun e w'' h => ⟨h.1, bl_then hS h.2⟩))
                       · (simp only [Act.put, List.setIfInBounds_toArray, List.set_cons_zero, List.set_cons_succ]; with_reducible rfl)))
                  cases b4 with
                  | false =>
                    repeat (first
                      | (refine' inText_val ?_ ?_ ?_ ?_
                         rotate_left 2
                         · rfl
                         · (intro w' hS; obtain ⟨hcc, hff⟩ := bcell hS; go_simp; try with_reducible rfl)
                         · (simp only [Act.put, List.setIfInBounds_toArray, List.set_cons_zero, List.set_cons_succ]; with_reducible rfl))
                      | (refine' inText_skip ?_ ?_ ?_
                         rotate_left 1
                         · rfl
                         · (simp only [Act.put, List.setIfInBounds_toArray, List.set_cons_zero, List.set_cons_succ]; with_reducible rfl))
                      | (refine' inText_call ?_ ?_ ?_ ?_ ?_
                         rotate_left 4
                         · rfl
                         · (intro w' hS; obtain ⟨hcc, hff⟩ := bcell hS; go_simp; exact ⟨rfl, rfl⟩)
                         · (intro w' hS
                            first
                              | (go_at_call 56; exact (H1.out w').mono fun e w'' h => ⟨h.1, by rw [← h.2]; exact hS⟩)
                              | (go_at_call 83; exact (H2.out w').mono fun e w'' h => ⟨h.1, bl_then hS h.2⟩)
                              | (go_at_call 88; exact (H3.out w' (HTr.out.below hS)).mono fun e w'' h => ⟨h.1, bl_then hS h.2⟩)
                              | (go_at_call 79; exact (H4.out w').mono fun e w'' h => ⟨h.1, bl_then hS h.2⟩))
                         · (simp only [Act.put, List.setIfInBounds_toArray, List.set_cons_zero, List.set_cons_succ]; with_reducible rfl)))
                    refine inText_nil (hKK.out _ (fun w' hS => ?_))
                    have HB9 := Lib.hid (bl_then HBr.out hS)
                    have HL9 := Lib.hid (bl_then hB.out hS)
                    clear hS hKK
                    go_wp2
                    first
                      | (go_ret; exact OneW.f HB9.out)
                      | (go_roundw
                         case rel => exact ⟨p + 1, by go_num, by omega, HL9⟩
                         case measure => simp [intOf]; omega)
                  | true =>
                    repeat (first
                      | (refine' inText_val ?_ ?_ ?_ ?_
                         rotate_left 2
                         · rfl
                         · (intro w' hS; obtain ⟨hcc, hff⟩ := bcell hS; go_simp; try with_reducible rfl)
                         · (simp only [Act.put, List.setIfInBounds_toArray, List.set_cons_zero, List.set_cons_succ]; with_reducible rfl))
                      | (refine' inText_skip ?_ ?_ ?_
                         rotate_left 1
                         · rfl
                         · (simp only [Act.put, List.setIfInBounds_toArray, List.set_cons_zero, List.set_cons_succ]; with_reducible rfl))
                      | (refine' inText_call ?_ ?_ ?_ ?_ ?_
                         rotate_left 4
                         · rfl
                         · (intro w' hS; obtain ⟨hcc, hff⟩ := bcell hS; go_simp; exact ⟨rfl, rfl⟩)
                         · (intro w' hS
                            first
                              | (go_at_call 56; exact (H1.out w').mono fun e w'' h => ⟨h.1, by rw [← h.2]; exact hS⟩)
                              | (go_at_call 83; exact (H2.out w').mono fun e w'' h => ⟨h.1, bl_then hS h.2⟩)
                              | (go_at_call 88; exact (H3.out w' (HTr.out.below hS)).mono fun e w'' h => ⟨h.1, bl_then hS h.2⟩)
                              | (go_at_call 79; exact (H4.out w').mono fun e w'' h => ⟨h.1, bl_then hS h.2⟩))
                         · (simp only [Act.put, List.setIfInBounds_toArray, List.set_cons_zero, List.set_cons_succ]; with_reducible rfl)))
                    refine inText_nil (hKK.out _ (fun w' hS => ?_))
                    have HB9 := Lib.hid (bl_then HBr.out hS)
                    have HL9 := Lib.hid (bl_then hB.out hS)
                    clear hS hKK
                    go_wp2
                    first
                      | (go_ret; exact OneW.f HB9.out)
                      | (go_roundw
                         case rel => exact ⟨p + 1, by go_num, by omega, HL9⟩
                         case measure => simp [intOf]; omega)
    · obtain ⟨kt0, kt1, kt2, kt3, kt4, kt5, kt6, kt7, kt8, kt9, kt10, kt11, kt12, kt13, kt14⟩ := tab15 (HKr.out)
      go_wp2
      go_ret
      exact OneW.t HBr.out trivial
end Go.Proofs.YtjggklfegcejhaaGreat
