/- Contract of clewref19.head. -/
import Derived.Test.YtjggklfegcejhaaGreatFitsD
namespace Go.Proofs.YtjggklfegcejhaaGreat
open Go.RowKit Go.PlainAid
set_option linter.unusedVariables false
set_option linter.unusedSimpArgs false

/-- A table's head. -/
structure HeadOk (t : TbC) : Prop where
  tx : t.tx.length ≤ 4096
  ti : TxOk t t.ti false
  au : TxOk t t.au false
  fl : 4 ≤ t.fl ∧ t.fl ≤ 16
  pr : t.pr.length ≤ 16
  gl : t.gl.length ≤ 64
  pl : t.pa.length = t.lo.length
  pa : t.pa.length ≤ 2048
  mx : 0 ≤ t.mx ∧ t.mx ≤ 32767
  tl : ∀ s ∈ t.tx, s.length ≤ 1024
set_option maxRecDepth 100000 in
set_option maxHeartbeats 40000000 in
theorem refHead (x : TAd) (t : TbC) (w : World) (ht : TabIs w x t) :
    Calls Tryz.prog 48 #[tabV x t] w (OneW (HeadOk t) w) := by
  have hm := reads_few ht.tx
  have hmp := reads_few ht.pa
  have HB0 := Lib.hid (bl_tab w x t)
  have HK0 : Hid (BK (tabW w x t) w.heap.size (tabC x t) 28) := Lib.hid (BK.new w (tabC x t) 28)
  obtain ⟨W0, hW0⟩ : ∃ W0, tabW w x t = W0 := ⟨_, rfl⟩
  rw [hW0] at HB0 HK0
  unfold tabW tabC at hW0
  unfold tabV tabC
  have HT := Lib.hid ht
  have H1 := Lib.hid (fun w => (refText x t t.ti false w hm).mono fun e w' h => IffW.val h)
  have H2 := Lib.hid (fun w => (refText x t t.au false w hm).mono fun e w' h => IffW.val h)
  have H3 := Lib.hid (fun w => (refFrom t.re 0 32767 w).mono fun e w' h => IffB.val h)
  have H4 := Lib.hid (fun w => (refFrom t.mx 0 32767 w).mono fun e w' h => IffB.val h)
  have H5 := Lib.hid (fun w => (refFrom t.fl 4 16 w).mono fun e w' h => IffB.val h)
  have H6 := Lib.hid (fun w' (hb : Below w.heap.size w w') => (refValues _ t.pr w' (HT.out.pr.below hb)).mono fun e w' h => IffB.val h)
  have H7 := Lib.hid (fun w' (hb : Below w.heap.size w w') => (refValues _ t.gl w' (HT.out.gl.below hb)).mono fun e w' h => IffB.val h)
  have hb1 : pB (TxOk t t.ti false) = true → TxOk t t.ti false := pB_iff.1
  have hb2 : pB (TxOk t t.au false) = true → TxOk t t.au false := pB_iff.1
  have hb5 : pB (4 ≤ t.fl ∧ t.fl ≤ 16) = true → 4 ≤ t.fl ∧ t.fl ≤ 16 := pB_iff.1
  generalize pB (TxOk t t.ti false) = b1 at H1 hb1
  generalize pB (TxOk t t.au false) = b2 at H2 hb2
  generalize pB (0 ≤ t.re ∧ t.re ≤ 32767) = b3 at H3
  have hb4 : pB (0 ≤ t.mx ∧ t.mx ≤ 32767) = true → 0 ≤ t.mx ∧ t.mx ≤ 32767 := pB_iff.1
  generalize pB (0 ≤ t.mx ∧ t.mx ≤ 32767) = b4 at H4 hb4
  have HC4 := Lib.hid hb4
  clear hb4
  generalize pB (4 ≤ t.fl ∧ t.fl ≤ 16) = b5 at H5 hb5
  generalize pB (∀ n ∈ t.pr, Val16 n) = b6 at H6
  generalize pB (∀ n ∈ t.gl, Val16 n) = b7 at H7
  have HC1 := Lib.hid hb1
  have HC2 := Lib.hid hb2
  have HC5 := Lib.hid hb5
  unfold tabV tabC at H1 H2
  unfold maxLen at hm hmp
  clear ht hb1 hb2 hb5
  have HKc := HK0
  have HBc := HB0
  clear HK0 HB0
  have kt0 := HKc.out.cell 0; have kt1 := HKc.out.cell 1; have kt2 := HKc.out.cell 2; have kt3 := HKc.out.cell 3; have kt4 := HKc.out.cell 4; have kt5 := HKc.out.cell 5; have kt6 := HKc.out.cell 6; have kt7 := HKc.out.cell 7; have kt8 := HKc.out.cell 8; have kt9 := HKc.out.cell 9; have kt10 := HKc.out.cell 10; have kt11 := HKc.out.cell 11; have kt12 := HKc.out.cell 12; have kt13 := HKc.out.cell 13; have kt14 := HKc.out.cell 14; simp only [tabC, List.getElem?_cons_zero, List.getElem?_cons_succ] at kt0 kt1 kt2 kt3 kt4 kt5 kt6 kt7 kt8 kt9 kt10 kt11 kt12 kt13 kt14
  by_cases hpl : t.pa.length = t.lo.length
  · have hpe : ((t.pa.length : Int) != (t.lo.length : Int)) = false := by simp [hpl]
    have HPL := Lib.hid hpl
    clear hpl
    go_enter Tryz.func48, Tryz.ntmps48
    go_wp2_with (first
    | (go_at_call 79; (with_reducible refine (H1.out _).mono ?_); rintro e w' ⟨rfl, hbw⟩; clear kt0 kt1 kt2 kt3 kt4 kt5 kt6 kt7 kt8 kt9 kt10 kt11 kt12 kt13 kt14; have HKc := Lib.hid (HKc.out.below hbw); have HBc := Lib.hid (bl_then HBc.out hbw); clear hbw; have kt0 := HKc.out.cell 0; have kt1 := HKc.out.cell 1; have kt2 := HKc.out.cell 2; have kt3 := HKc.out.cell 3; have kt4 := HKc.out.cell 4; have kt5 := HKc.out.cell 5; have kt6 := HKc.out.cell 6; have kt7 := HKc.out.cell 7; have kt8 := HKc.out.cell 8; have kt9 := HKc.out.cell 9; have kt10 := HKc.out.cell 10; have kt11 := HKc.out.cell 11; have kt12 := HKc.out.cell 12; have kt13 := HKc.out.cell 13; have kt14 := HKc.out.cell 14; simp only [tabC, List.getElem?_cons_zero, List.getElem?_cons_succ] at kt0 kt1 kt2 kt3 kt4 kt5 kt6 kt7 kt8 kt9 kt10 kt11 kt12 kt13 kt14)
    | (go_at_call 79; (with_reducible refine (H2.out _).mono ?_); rintro e w' ⟨rfl, hbw⟩; clear kt0 kt1 kt2 kt3 kt4 kt5 kt6 kt7 kt8 kt9 kt10 kt11 kt12 kt13 kt14; have HKc := Lib.hid (HKc.out.below hbw); have HBc := Lib.hid (bl_then HBc.out hbw); clear hbw; have kt0 := HKc.out.cell 0; have kt1 := HKc.out.cell 1; have kt2 := HKc.out.cell 2; have kt3 := HKc.out.cell 3; have kt4 := HKc.out.cell 4; have kt5 := HKc.out.cell 5; have kt6 := HKc.out.cell 6; have kt7 := HKc.out.cell 7; have kt8 := HKc.out.cell 8; have kt9 := HKc.out.cell 9; have kt10 := HKc.out.cell 10; have kt11 := HKc.out.cell 11; have kt12 := HKc.out.cell 12; have kt13 := HKc.out.cell 13; have kt14 := HKc.out.cell 14; simp only [tabC, List.getElem?_cons_zero, List.getElem?_cons_succ] at kt0 kt1 kt2 kt3 kt4 kt5 kt6 kt7 kt8 kt9 kt10 kt11 kt12 kt13 kt14)
    | (go_at_call 56; (with_reducible refine (H3.out _).mono ?_); rintro e w' ⟨rfl, rfl⟩)
    | (go_at_call 56; (with_reducible refine (H4.out _).mono ?_); rintro e w' ⟨rfl, rfl⟩)
    | (go_at_call 56; (with_reducible refine (H5.out _).mono ?_); rintro e w' ⟨rfl, rfl⟩)
    | (go_at_call 52; (with_reducible refine (H6.out _ HBc.out).mono ?_); rintro e w' ⟨rfl, rfl⟩)
    | (go_at_call 52; (with_reducible refine (H7.out _ HBc.out).mono ?_); rintro e w' ⟨rfl, rfl⟩))
    all_goals first
      | (go_ret; exact OneW.f HBc.out)
      | skip
    have HO : Hid ((∀ s ∈ t.tx, s.length ≤ 1024) → HeadOk t) := Lib.hid (fun htl => by
      have g1 : b1 = true := by assumption
      have g2 : b2 = true := by assumption
      have g4 : b4 = true := by assumption
      have g5 : b5 = true := by simpa using (‹((t.tx.length : Int) ≤ 4096) ∧ (!b5) = false›).2
      exact ⟨by omega, HC1.out g1, HC2.out g2, HC5.out g5, by omega, by omega, HPL.out, by omega, HC4.out g4, htl⟩)
    clear HC1 HC2 HC4 HC5 H1 H2 H3 H4 H5 H6 H7
    go_loop [3] (fun i => ∃ (p : Nat), i = .int .i64 p ∧ p ≤ t.tx.length ∧ Hid (∀ s ∈ t.tx.take p, s.length ≤ 1024)) (fun i => t.tx.length - (intOf i).toNat)
    case atStart => exact ⟨0, rfl, Nat.zero_le _, Lib.hid (fun s hs => by simp at hs)⟩
    case round =>
      obtain ⟨p, rfl, hpl, HTK⟩ := hrel
      by_cases hlt : p < t.tx.length
      · obtain ⟨b, off, cap, hv, hcap, hblt, hcell⟩ := str_open (HT.out.tx.below HBc.out) (by omega)
        have hac : x.a4 = some ⟨b, off, none⟩ := by simp at hv; exact hv.1
        obtain ⟨hz, e0⟩ := hcell p hlt
        have HTS : Hid (t.tx[p].length ≤ 1024 → ∀ s ∈ t.tx.take (p + 1), s.length ≤ 1024) := Lib.hid (take_all hlt HTK.out)
        generalize t.tx[p] = s at e0 hz HTS
        have hk0 : (0 : Int) ≤ (p : Int) := by omega
        have hk1 : (p : Int) < (t.tx.length : Int) := by omega
        have hsz : (⟨s.toArray⟩ : ByteArray).size ≤ maxLen := by show s.toArray.size ≤ _; simpa using hz
        rw [hac] at kt4
        clear hcell hv hac hz
        go_wp2_with (go_at_call 80; refine (refIsText _ _ hsz).mono ?_; rintro e w2 ⟨b9, rfl, h9, rfl⟩; have H9 := Lib.hid h9; clear h9)
        · go_ret
          exact OneW.f HBc.out
        · go_round
          case rel => exact ⟨p + 1, by go_num, by omega, Lib.hid (HTS.out (by have := H9.out (by first | assumption | (have h : (!b9) = false := (by assumption); simpa using h)); simpa [ByteArray.size] using this))⟩
          case measure => simp [intOf]; omega
      · have HTL := Lib.hid (take_full hlt HTK.out)
        go_wp2_with fail
        go_loopw [4] (fun i wr => ∃ (p : Nat), i = .int .i64 p ∧ p ≤ t.pa.length ∧ Hid (Below w.heap.size w wr) ∧ Hid (BK wr w.heap.size (tabC x t) 28)) (fun i _ => t.pa.length - (intOf i).toNat)
        case atStart => exact ⟨0, rfl, Nat.zero_le _, HBc, HKc⟩
        case round =>
          clear kt0 kt1 kt2 kt3 kt4 kt5 kt6 kt7 kt8 kt9 kt10 kt11 kt12 kt13 kt14
          obtain ⟨p, rfl, hpl, hB, hK⟩ := hrel
          have kt13 := hK.out.cell 13
          have kt14 := hK.out.cell 14
          simp only [tabC, List.getElem?_cons_zero, List.getElem?_cons_succ] at kt13 kt14
          by_cases hlt : p < t.pa.length
          · have hpo := HPL.out
            obtain ⟨b, off, cap, hv, hcap, hblt, hcell⟩ := int_open (HT.out.pa.below hB.out) (by omega)
            have hac : x.a13 = some ⟨b, off, none⟩ := by simp at hv; exact hv.1
            have e0 := hcell p hlt
            obtain ⟨b', off', cap', hv', hcap', hblt', hcell'⟩ := int_open (HT.out.lo.below hB.out) (by omega)
            have hac' : x.a14 = some ⟨b', off', none⟩ := by simp at hv'; exact hv'.1
            have f0 := hcell' p (by omega)
            generalize t.pa[p] = n1 at e0
            generalize t.lo[p]'(by omega) = n2 at f0
            have G1 := Lib.hid (fun w => (refFrom n1 0 8 w).mono fun e w' h => IffB.val h)
            have G2 := Lib.hid (fun w => (refFrom n2 n1 24 w).mono fun e w' h => IffB.val h)
            generalize pB (0 ≤ n1 ∧ n1 ≤ 8) = c1 at G1
            generalize pB (n1 ≤ n2 ∧ n2 ≤ 24) = c2 at G2
            have hk0 : (0 : Int) ≤ (p : Int) := by omega
            have hk1 : (p : Int) < (t.pa.length : Int) := by omega
            have hk2 : (p : Int) < (t.lo.length : Int) := by omega
            have hwlt : w.heap.size < wr.heap.size := hK.out.lt
            rw [hac] at kt13
            rw [hac'] at kt14
            clear hcell hv hac hcell' hv' hac' hpo
            go_wp2_with fail
            refine region_text (fun w' => Below wr.heap.size wr w') (by kernel_rfl) (by kernel_rfl) ((Below.refl _ _).drew) (fun KK hKK => ?_)
            intro OPS
            try simp only [List.append]
            repeat (first
              | (refine' inText_val ?_ ?_ ?_ ?_
                 rotate_left 2
                 · rfl
                 · (intro w' hS; obtain ⟨hcc, hff⟩ := bcell hS; go_simp; try with_reducible rfl)
                 · (simp only [Act.put, List.setIfInBounds_toArray, List.set_cons_zero, List.set_cons_succ]; with_reducible rfl))
              | (refine' inText_skip ?_ ?_ ?_
                 rotate_left 1
                 · rfl
                 · (simp only [Act.put, List.setIfInBounds_toArray, List.set_cons_zero, List.set_cons_succ]; with_reducible rfl))
              | (refine' inText_call ?_ ?_ ?_ ?_ ?_
                 rotate_left 4
                 · rfl
                 · (intro w' hS; obtain ⟨hcc, hff⟩ := bcell hS; go_simp; exact ⟨rfl, rfl⟩)
                 · (intro w' hS
                    first
                      | (go_at_call 56; (with_reducible refine (G1.out w').mono ?_); exact fun e w'' h => ⟨h.1, by rw [← h.2]; exact hS⟩)
                      | (go_at_call 56; (with_reducible refine (G2.out w').mono ?_); exact fun e w'' h => ⟨h.1, by rw [← h.2]; exact hS⟩))
                 · (simp only [Act.put, List.setIfInBounds_toArray, List.set_cons_zero, List.set_cons_succ]; with_reducible rfl)))
            cases c1 with
            | false =>
              repeat (first
                | (refine' inText_val ?_ ?_ ?_ ?_
                   rotate_left 2
                   · rfl
                   · (intro w' hS; obtain ⟨hcc, hff⟩ := bcell hS; go_simp; try with_reducible rfl)
                   · (simp only [Act.put, List.setIfInBounds_toArray, List.set_cons_zero, List.set_cons_succ]; with_reducible rfl))
                | (refine' inText_skip ?_ ?_ ?_
                   rotate_left 1
                   · rfl
                   · (simp only [Act.put, List.setIfInBounds_toArray, List.set_cons_zero, List.set_cons_succ]; with_reducible rfl))
                | (refine' inText_call ?_ ?_ ?_ ?_ ?_
                   rotate_left 4
                   · rfl
                   · (intro w' hS; obtain ⟨hcc, hff⟩ := bcell hS; go_simp; exact ⟨rfl, rfl⟩)
                   · (intro w' hS
                      first
                        | (go_at_call 56; (with_reducible refine (G1.out w').mono ?_); exact fun e w'' h => ⟨h.1, by rw [← h.2]; exact hS⟩)
                        | (go_at_call 56; (with_reducible refine (G2.out w').mono ?_); exact fun e w'' h => ⟨h.1, by rw [← h.2]; exact hS⟩))
                   · (simp only [Act.put, List.setIfInBounds_toArray, List.set_cons_zero, List.set_cons_succ]; with_reducible rfl)))
              refine inText_nil (hKK.out _ (fun w' hS => ?_))
              have HB9 := Lib.hid (bl_then hB.out hS)
              have HK9 := Lib.hid (hK.out.below hS)
              clear hS hKK
              go_wp2
              first
                | (go_ret; exact OneW.f HB9.out)
                | (go_roundw
                   case rel => exact ⟨p + 1, by go_num, by omega, HB9, HK9⟩
                   case measure => simp [intOf]; omega)
            | true =>
              repeat (first
                | (refine' inText_val ?_ ?_ ?_ ?_
                   rotate_left 2
                   · rfl
                   · (intro w' hS; obtain ⟨hcc, hff⟩ := bcell hS; go_simp; try with_reducible rfl)
                   · (simp only [Act.put, List.setIfInBounds_toArray, List.set_cons_zero, List.set_cons_succ]; with_reducible rfl))
                | (refine' inText_skip ?_ ?_ ?_
                   rotate_left 1
                   · rfl
                   · (simp only [Act.put, List.setIfInBounds_toArray, List.set_cons_zero, List.set_cons_succ]; with_reducible rfl))
                | (refine' inText_call ?_ ?_ ?_ ?_ ?_
                   rotate_left 4
                   · rfl
                   · (intro w' hS; obtain ⟨hcc, hff⟩ := bcell hS; go_simp; exact ⟨rfl, rfl⟩)
                   · (intro w' hS
                      first
                        | (go_at_call 56; (with_reducible refine (G1.out w').mono ?_); exact fun e w'' h => ⟨h.1, by rw [← h.2]; exact hS⟩)
                        | (go_at_call 56; (with_reducible refine (G2.out w').mono ?_); exact fun e w'' h => ⟨h.1, by rw [← h.2]; exact hS⟩))
                   · (simp only [Act.put, List.setIfInBounds_toArray, List.set_cons_zero, List.set_cons_succ]; with_reducible rfl)))
              cases c2 with
              | false =>
                repeat (first
                  | (refine' inText_val ?_ ?_ ?_ ?_
                     rotate_left 2
                     · rfl
                     · (intro w' hS; obtain ⟨hcc, hff⟩ := bcell hS; go_simp; try with_reducible rfl)
                     · (simp only [Act.put, List.setIfInBounds_toArray, List.set_cons_zero, List.set_cons_succ]; with_reducible rfl))
                  | (refine' inText_skip ?_ ?_ ?_
                     rotate_left 1
                     · rfl
                     · (simp only [Act.put, List.setIfInBounds_toArray, List.set_cons_zero, List.set_cons_succ]; with_reducible rfl))
                  | (refine' inText_call ?_ ?_ ?_ ?_ ?_
                     rotate_left 4
                     · rfl
                     · (intro w' hS; obtain ⟨hcc, hff⟩ := bcell hS; go_simp; exact ⟨rfl, rfl⟩)
                     · (intro w' hS
                        first
                          | (go_at_call 56; (with_reducible refine (G1.out w').mono ?_); exact fun e w'' h => ⟨h.1, by rw [← h.2]; exact hS⟩)
                          | (go_at_call 56; (with_reducible refine (G2.out w').mono ?_); exact fun e w'' h => ⟨h.1, by rw [← h.2]; exact hS⟩))
                     · (simp only [Act.put, List.setIfInBounds_toArray, List.set_cons_zero, List.set_cons_succ]; with_reducible rfl)))
                refine inText_nil (hKK.out _ (fun w' hS => ?_))
                have HB9 := Lib.hid (bl_then hB.out hS)
                have HK9 := Lib.hid (hK.out.below hS)
                clear hS hKK
                go_wp2
                first
                  | (go_ret; exact OneW.f HB9.out)
                  | (go_roundw
                     case rel => exact ⟨p + 1, by go_num, by omega, HB9, HK9⟩
                     case measure => simp [intOf]; omega)
              | true =>
                repeat (first
                  | (refine' inText_val ?_ ?_ ?_ ?_
                     rotate_left 2
                     · rfl
                     · (intro w' hS; obtain ⟨hcc, hff⟩ := bcell hS; go_simp; try with_reducible rfl)
                     · (simp only [Act.put, List.setIfInBounds_toArray, List.set_cons_zero, List.set_cons_succ]; with_reducible rfl))
                  | (refine' inText_skip ?_ ?_ ?_
                     rotate_left 1
                     · rfl
                     · (simp only [Act.put, List.setIfInBounds_toArray, List.set_cons_zero, List.set_cons_succ]; with_reducible rfl))
                  | (refine' inText_call ?_ ?_ ?_ ?_ ?_
                     rotate_left 4
                     · rfl
                     · (intro w' hS; obtain ⟨hcc, hff⟩ := bcell hS; go_simp; exact ⟨rfl, rfl⟩)
                     · (intro w' hS
                        first
                          | (go_at_call 56; (with_reducible refine (G1.out w').mono ?_); exact fun e w'' h => ⟨h.1, by rw [← h.2]; exact hS⟩)
                          | (go_at_call 56; (with_reducible refine (G2.out w').mono ?_); exact fun e w'' h => ⟨h.1, by rw [← h.2]; exact hS⟩))
                     · (simp only [Act.put, List.setIfInBounds_toArray, List.set_cons_zero, List.set_cons_succ]; with_reducible rfl)))
                refine inText_nil (hKK.out _ (fun w' hS => ?_))
                have HB9 := Lib.hid (bl_then hB.out hS)
                have HK9 := Lib.hid (hK.out.below hS)
                clear hS hKK
                go_wp2
                first
                  | (go_ret; exact OneW.f HB9.out)
                  | (go_roundw
                     case rel => exact ⟨p + 1, by go_num, by omega, HB9, HK9⟩
                     case measure => simp [intOf]; omega)
          · go_wp2
            go_ret
            exact OneW.t hB.out (HO.out HTL.out)
  · have hpe : ((t.pa.length : Int) != (t.lo.length : Int)) = true := by simp; omega
    go_enter Tryz.func48, Tryz.ntmps48
    go_wp2_with (first
    | (go_at_call 79; (with_reducible refine (H1.out _).mono ?_); rintro e w' ⟨rfl, hbw⟩; clear kt0 kt1 kt2 kt3 kt4 kt5 kt6 kt7 kt8 kt9 kt10 kt11 kt12 kt13 kt14; have HKc := Lib.hid (HKc.out.below hbw); have HBc := Lib.hid (bl_then HBc.out hbw); clear hbw; have kt0 := HKc.out.cell 0; have kt1 := HKc.out.cell 1; have kt2 := HKc.out.cell 2; have kt3 := HKc.out.cell 3; have kt4 := HKc.out.cell 4; have kt5 := HKc.out.cell 5; have kt6 := HKc.out.cell 6; have kt7 := HKc.out.cell 7; have kt8 := HKc.out.cell 8; have kt9 := HKc.out.cell 9; have kt10 := HKc.out.cell 10; have kt11 := HKc.out.cell 11; have kt12 := HKc.out.cell 12; have kt13 := HKc.out.cell 13; have kt14 := HKc.out.cell 14; simp only [tabC, List.getElem?_cons_zero, List.getElem?_cons_succ] at kt0 kt1 kt2 kt3 kt4 kt5 kt6 kt7 kt8 kt9 kt10 kt11 kt12 kt13 kt14)
    | (go_at_call 79; (with_reducible refine (H2.out _).mono ?_); rintro e w' ⟨rfl, hbw⟩; clear kt0 kt1 kt2 kt3 kt4 kt5 kt6 kt7 kt8 kt9 kt10 kt11 kt12 kt13 kt14; have HKc := Lib.hid (HKc.out.below hbw); have HBc := Lib.hid (bl_then HBc.out hbw); clear hbw; have kt0 := HKc.out.cell 0; have kt1 := HKc.out.cell 1; have kt2 := HKc.out.cell 2; have kt3 := HKc.out.cell 3; have kt4 := HKc.out.cell 4; have kt5 := HKc.out.cell 5; have kt6 := HKc.out.cell 6; have kt7 := HKc.out.cell 7; have kt8 := HKc.out.cell 8; have kt9 := HKc.out.cell 9; have kt10 := HKc.out.cell 10; have kt11 := HKc.out.cell 11; have kt12 := HKc.out.cell 12; have kt13 := HKc.out.cell 13; have kt14 := HKc.out.cell 14; simp only [tabC, List.getElem?_cons_zero, List.getElem?_cons_succ] at kt0 kt1 kt2 kt3 kt4 kt5 kt6 kt7 kt8 kt9 kt10 kt11 kt12 kt13 kt14)
    | (go_at_call 56; (with_reducible refine (H3.out _).mono ?_); rintro e w' ⟨rfl, rfl⟩)
    | (go_at_call 56; (with_reducible refine (H4.out _).mono ?_); rintro e w' ⟨rfl, rfl⟩)
    | (go_at_call 56; (with_reducible refine (H5.out _).mono ?_); rintro e w' ⟨rfl, rfl⟩)
    | (go_at_call 52; (with_reducible refine (H6.out _ HBc.out).mono ?_); rintro e w' ⟨rfl, rfl⟩)
    | (go_at_call 52; (with_reducible refine (H7.out _ HBc.out).mono ?_); rintro e w' ⟨rfl, rfl⟩))
    all_goals
      go_ret
      exact OneW.f HBc.out
end Go.Proofs.YtjggklfegcejhaaGreat
