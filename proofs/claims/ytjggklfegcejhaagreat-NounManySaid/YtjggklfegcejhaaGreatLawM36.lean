/- The walk of NounMany. -/
import Derived.Test.YtjggklfegcejhaaGreatLawAM
import Derived.Test.YtjggklfegcejhaaGreatParseR
namespace Go.Proofs.YtjggklfegcejhaaGreat
open Go.RowKit Go.PlainAid Go.Deep
set_option linter.unusedVariables false
set_option linter.unusedSimpArgs false

theorem vis_sees {d : WdC} {n : Nat} {y : Int} (h : y ∈ visN d n) : seesN d n y = true := by
 unfold seesN
 rw [Bool.or_eq_true, List.contains_iff_mem]
 exact .inr h
theorem dup_of {t : TbC} {q : Wv} {d : WdC} (h : RightOk t q d) : ∀ x, (kidsW d.ch d.nx t.th.length x).Nodup := by have := h.nest.dup; rwa [h.h1] at this
theorem map_key : ∀ {l : List TxC}, (∀ s ∈ l, WordOk s) → l.map keyW = l
 | [], _ => rfl
 | a :: l, h => by rw [List.map_cons, wordOk_key (h a (List.mem_cons_self ..)), map_key (fun s hs => h s (List.mem_cons_of_mem _ hs))]
theorem FitsOk.keys {t : TbC} (h : FitsOk t) : KeyOk t := fun y hy => by
 have h2 := h.th.words y hy
 exact ⟨map_key h2.1.1, map_key h2.2.1⟩
theorem many_len {one : List TxC → Int × Nat × Int} {vis car : List Int} {ks : List TxC} {n : Nat} (h1 : vis.length ≤ n) (h2 : car.length ≤ n) (h3 : ks.length + 1 ≤ n) : (manyN one vis car ks).th.length ≤ n := by
 have hl : ∀ b, (leftN vis car b).length ≤ n := fun b => Nat.le_trans (List.length_filter_le _ _) (all_len h1 h2)
 have lst : ∀ l : List TxC, l.length + 1 ≤ n → (listN one l (l.length + 1) 0 []).th.length ≤ n := fun l hh => Nat.le_trans (list_thlen one _ _ _ _) (by rw [List.length_nil]; omega)
 unfold manyN
 split
 · exact lst _ h3
 · rename_i k r
   simp only [List.length_cons] at h3
   split
   · split
     · split
       · exact Nat.zero_le _
       · exact hl _
     · rename_i b q
       simp only [List.length_cons] at h3
       split
       · simp only
         split
         · split
           · exact Nat.zero_le _
           · exact hl _
         · exact Nat.zero_le _
       · split
         · exact Nat.zero_le _
         · exact hl _
   · exact lst _ (by simp only [List.length_cons]; omega)
set_option maxRecDepth 100000 in
theorem amongL (a : Option Addr) (L : List Int) (c : Nat) (x : Int) (w : World) (h : Ints w (.slice a L.length c) L) :
    Calls Tryz.prog 14 #[.slice a L.length c, .int .i64 x] w fun e w' => e = .returned (.bool (L.contains x)) ∧ w = w' := by
 have HW := Lib.hid h
 have hn : L.length ≤ maxLen := by obtain ⟨_, _, _, h1, _⟩ := h; exact h1
 obtain ⟨m, hm⟩ : ∃ m, L.length = m := ⟨_, rfl⟩
 obtain ⟨r, hr⟩ : ∃ r, L.contains x = r := ⟨_, rfl⟩
 have HR := Lib.hid hr
 have HM := Lib.hid hm
 rw [hm] at hn HW ⊢
 rw [hr]
 unfold maxLen at hn
 clear h hm hr
 go_enter Tryz.func14, Tryz.ntmps14
 go_wp2
 go_loop [5] (fun iv => ∃ i : Nat, iv = .int .i64 i ∧ i ≤ m ∧ Hid (∀ j (h : j < L.length), j < i → L[j] ≠ x)) (fun iv => m - (intOf iv).toNat)
 case atStart => exact ⟨0, rfl, Nat.zero_le _, Lib.hid (fun j _ h => by omega)⟩
 case round =>
  obtain ⟨i, rfl, hi, HI⟩ := hrel
  by_cases hlt : i < m
  · have hil : i < L.length := by rw [HM.out]; exact hlt
    obtain ⟨b, o, rfl, hb, hcs⟩ := HW.out.at2 (by omega)
    have hci := hcs i hil
    have HMEM := Lib.hid (List.getElem_mem hil)
    obtain ⟨y, hy⟩ : ∃ y, L[i] = y := ⟨_, rfl⟩
    rw [hy] at hci HMEM
    have HX := Lib.hid hy
    clear hcs hy
    by_cases hyx : y = x
    · have e1 : (y == x) = true := by simp [hyx]
      have HT : Hid (r = true) := Lib.hid (by rw [← HR.out, List.contains_iff_mem, ← hyx]; exact HMEM.out)
      go_wp2_with fail
      go_ret
      exact ⟨by rw [HT.out]; rfl, rfl⟩
    · have e1 : (y == x) = false := by simp [hyx]
      have HI2 : Hid (∀ j (h : j < L.length), j < i + 1 → L[j] ≠ x) := Lib.hid (fun j h hj => by
       by_cases e : j = i
       · subst e; rw [HX.out]; exact hyx
       · exact HI.out j h (by omega))
      go_wp2_with fail
      go_round
      case rel => exact ⟨i + 1, by go_num, by omega, HI2⟩
      case measure => simp [intOf]; omega
  · have HF : Hid (r = false) := Lib.hid (by
      rw [← HR.out, ← Bool.not_eq_true, List.contains_iff_mem]
      intro hm
      obtain ⟨j, hj, e⟩ := List.getElem_of_mem hm
      exact HI.out j hj (by rw [HM.out] at hj; omega) e)
    go_wp2_with fail
    go_ret
    exact ⟨by rw [HF.out]; rfl, rfl⟩
set_option maxRecDepth 100000 in
set_option maxHeartbeats 16000000 in
theorem walkMany (x : TAd) (t : TbC) (q : Wv) (d : WdC) (a : Option Addr) (ws : List TxC) (c : Nat) (w : World) (ht : TabIs w x t) (hw : WRd w q d) (hws : Wds w a ws) (hc : ws.length ≤ c) :
    Calls Tryz.prog 4 #[tabV x t, worldV q, .slice a ws.length c] w fun e w' => e = .returned (.bool true) ∧ Below w.heap.size w w' := by
 have hnew := Two.new x t q w
 obtain ⟨W0, hW0⟩ : ∃ W0, (w.alloc (.cells (tabC x t).toArray 28)).alloc (.cells (worldC q).toArray 31) = W0 := ⟨_, rfl⟩
 rw [hW0] at hnew
 have HMY := Lib.hid (fun w' (hb : Below w.heap.size w w') => mayC x t q d a ws c w' (ht.below hb) (hw.below hb) (hws.below hb))
 have HP1 := Lib.hid (fun (hk : MayOk t q d ws) w' (hb : Below w.heap.size w w') => parseC x t q d a ws c true w' (ht.below hb) (hk.rt.ok hk.fit (hw.below hb)) (fun y => reach_few hk.rt (hk.rt.ok hk.fit hw) y) (hws.below hb) hc (Nat.le_trans hk.few (by decide)))
 have HP2 := Lib.hid (fun (hk : MayOk t q d ws) w' (hb : Below w.heap.size w w') => refParse x t q d a ws c true w' (ht.below hb) (hk.rt.ok hk.fit (hw.below hb)) (dup_of hk.rt) hk.fit.keys hk.fit.tw.two (hws.below hb) hc (Nat.le_trans hk.few (by decide)))
 have HSE := Lib.hid (fun (hk : MayOk t q d ws) y w' (hb : Below w.heap.size w w') => ref23Sees x t q d t.th.length y w' (hk.rt.ok hk.fit (hw.below hb)) (dup_of hk.rt))
 have HCR := Lib.hid (fun (hk : MayOk t q d ws) w' (hb : Below w.heap.size w w') => ref23Carried x t q d t.th.length w' (hk.rt.ok hk.fit (hw.below hb)) (dup_of hk.rt))
 have HOK := Lib.hid (fun (hk : MayOk t q d ws) => many_ok (one := oneW t q d) (S := fun y => seesN d t.th.length y = true ∨ y ∈ reachV d t.th.length 1) (fun ks y u h => .inl (one_sees h)) (vis := visN d t.th.length) (car := reachV d t.th.length 1) (fun y hy => .inl (vis_sees hy)) (fun y hy => .inr hy) (vis_nodup (hk.rt.ok hk.fit hw).nest (hk.rt.ok hk.fit hw).pos (dup_of hk.rt)) (reach_nodup (hk.rt.ok hk.fit hw).nest (hk.rt.ok hk.fit hw).pos (dup_of hk.rt) _ _ _ _) (ws.map keyW))
 have HLE := Lib.hid (fun (hk : MayOk t q d ws) => many_len (one := oneW t q d) (vis := visN d t.th.length) (car := reachV d t.th.length 1) (ks := ws.map keyW) (n := 1000) (Nat.le_trans (visN_len (hk.rt.ok hk.fit hw).nest (hk.rt.ok hk.fit hw).pos (dup_of hk.rt)) (hk.rt.ok hk.fit hw).few) (Nat.le_trans (reach_len (hk.rt.ok hk.fit hw).nest (hk.rt.ok hk.fit hw).pos (dup_of hk.rt) _ _ _ _) (hk.rt.ok hk.fit hw).few) (by rw [List.length_map]; have := hk.few; omega))
 have HPA : Hid (parseN (oneW t q d) (visN d t.th.length) (reachV d t.th.length 1) (ws.map keyW) true = manyN (oneW t q d) (visN d t.th.length) (reachV d t.th.length 1) (ws.map keyW)) := Lib.hid rfl
 have HCL := Lib.hid (fun (hk : MayOk t q d ws) => Nat.le_trans (reach_len (hk.rt.ok hk.fit hw).nest (hk.rt.ok hk.fit hw).pos (dup_of hk.rt) (fun c => hasB d.fl t.th.length c 3) (showB d.fl t.th.length) t.th.length 1) (hk.rt.ok hk.fit hw).few)
 rw [HPA.out] at HP1 HP2
 generalize manyN (oneW t q d) (visN d t.th.length) (reachV d t.th.length 1) (ws.map keyW) = PH at *
 obtain ⟨l, us, r⟩ := PH
 have HCV : Hid (reachW (kidsW d.ch d.nx t.th.length) (fun c => hasB d.fl t.th.length c 3) (showB d.fl t.th.length) t.th.length 1 = reachV d t.th.length 1) := Lib.hid rfl
 rw [HCV.out] at HCL
 generalize reachV d t.th.length 1 = car at *
 obtain ⟨sees, hsees⟩ : ∃ s, seesN d t.th.length = s := ⟨_, rfl⟩
 rw [hsees] at HSE HOK
 clear hsees HPA HCV
 have HAW := Lib.hid (fun w' => awake36 w')
 obtain ⟨m, hm⟩ : ∃ m, ws.length = m := ⟨_, rfl⟩
 have HWM := Lib.hid hm
 rw [hm] at HMY HP1 HP2 ⊢
 clear ht hw hws hc hm
 have HTW := Lib.hid (hnew)
 have HTWt := Lib.hid HTW.out.bt
 have HTWw := Lib.hid HTW.out.bw
 obtain ⟨kt0, kt1, kt2, kt3, kt4, kt5, kt6, kt7, kt8, kt9, kt10, kt11, kt12, kt13, kt14⟩ := tab15 (HTWt.out)
 obtain ⟨b0, b1, b2, b3, b4, b5, b6, b7, b8, b9, bA, bB, bC⟩ := wd13 (HTWw.out)
 clear hnew
 unfold tabV worldV at *
 go_enter Tryz.func4, Tryz.ntmps4
 unfold worldC at HMY HP1 HP2 HSE HCR hW0 ⊢
 unfold tabC at HMY HP1 HP2 HSE HCR hW0 ⊢
 go_wp2_with fail
 clear hW0
 refine (HMY.out _ HTW.out.bl).mono ?_
 rintro e w1 ⟨bm, rfl, hbm, hb1⟩
 have HBM := Lib.hid hbm
 have hnew := HTW.out.below hb1
 clear kt0 kt1 kt2 kt3 kt4 kt5 kt6 kt7 kt8 kt9 kt10 kt11 kt12 kt13 kt14
 clear b0 b1 b2 b3 b4 b5 b6 b7 b8 b9 bA bB bC
 clear HTWt HTWw
 clear HTW
 have HTW := Lib.hid (hnew)
 have HTWt := Lib.hid HTW.out.bt
 have HTWw := Lib.hid HTW.out.bw
 obtain ⟨kt0, kt1, kt2, kt3, kt4, kt5, kt6, kt7, kt8, kt9, kt10, kt11, kt12, kt13, kt14⟩ := tab15 (HTWt.out)
 obtain ⟨b0, b1, b2, b3, b4, b5, b6, b7, b8, b9, bA, bB, bC⟩ := wd13 (HTWw.out)
 clear hnew
 clear hbm hb1
 cases bm with
 | false =>
   go_wp2_with fail
   refine (HAW.out _).mono ?_
   rintro e w9 ⟨rfl, hb9⟩
   have HB9 := Lib.hid (bl_then HTW.out.bl hb9)
   clear hb9
   clear kt0 kt1 kt2 kt3 kt4 kt5 kt6 kt7 kt8 kt9 kt10 kt11 kt12 kt13 kt14
   clear b0 b1 b2 b3 b4 b5 b6 b7 b8 b9 bA bB bC
   clear HTWt HTWw
   go_wp2_with fail
   go_ret
   exact ⟨rfl, HB9.out⟩
 | true =>
   have HK := Lib.hid (HBM.out rfl)
   have HP1 := Lib.hid (HP1.out HK.out)
   have HP2 := Lib.hid (HP2.out HK.out)
   have HSE := Lib.hid (HSE.out HK.out)
   have HCR := Lib.hid (HCR.out HK.out)
   have HOK := Lib.hid (HOK.out HK.out)
   have HLE := Lib.hid (HLE.out HK.out)
   have HCL := Lib.hid (HCL.out HK.out)
   try dsimp only at HLE
   clear HMY HBM
   go_wp2_with fail
   refine (HP1.out _ HTW.out.bl).mono ?_
   rintro e w4 ⟨ap, cp, rfl, hip, hbp, hfp⟩
   have HIP := Lib.hid hip
   have hnew := HTW.out.below hbp
   clear kt0 kt1 kt2 kt3 kt4 kt5 kt6 kt7 kt8 kt9 kt10 kt11 kt12 kt13 kt14
   clear b0 b1 b2 b3 b4 b5 b6 b7 b8 b9 bA bB bC
   clear HTWt HTWw
   clear HTW
   have HTW := Lib.hid (hnew)
   have HTWt := Lib.hid HTW.out.bt
   have HTWw := Lib.hid HTW.out.bw
   obtain ⟨kt0, kt1, kt2, kt3, kt4, kt5, kt6, kt7, kt8, kt9, kt10, kt11, kt12, kt13, kt14⟩ := tab15 (HTWt.out)
   obtain ⟨b0, b1, b2, b3, b4, b5, b6, b7, b8, b9, bA, bB, bC⟩ := wd13 (HTWw.out)
   clear hnew
   clear hip hbp hfp
   dsimp only at HIP ⊢
   go_wp2_with fail
   have HK5' : BK (w4.alloc (.cells #[.slice ap l.length cp, .int .i64 us, .int .i64 r] 36)) w4.heap.size [.slice ap l.length cp, .int .i64 us, .int .i64 r] 36 := BK.new w4 [.slice ap l.length cp, .int .i64 us, .int .i64 r] 36
   have HBa := bl_a (Below.refl w4.heap.size w4) (.cells #[.slice ap l.length cp, .int .i64 us, .int .i64 r] 36)
   generalize w4.alloc (.cells #[.slice ap l.length cp, .int .i64 us, .int .i64 r] 36) = W5 at HK5' HBa ⊢
   have HK5 := Lib.hid HK5'
   have HIP5 := Lib.hid (HIP.out.below HBa)
   have hnew := HTW.out.below HBa
   clear kt0 kt1 kt2 kt3 kt4 kt5 kt6 kt7 kt8 kt9 kt10 kt11 kt12 kt13 kt14
   clear b0 b1 b2 b3 b4 b5 b6 b7 b8 b9 bA bB bC
   clear HTWt HTWw
   clear HTW
   have HTW := Lib.hid (hnew)
   have HTWt := Lib.hid HTW.out.bt
   have HTWw := Lib.hid HTW.out.bw
   obtain ⟨kt0, kt1, kt2, kt3, kt4, kt5, kt6, kt7, kt8, kt9, kt10, kt11, kt12, kt13, kt14⟩ := tab15 (HTWt.out)
   obtain ⟨b0, b1, b2, b3, b4, b5, b6, b7, b8, b9, bA, bB, bC⟩ := wd13 (HTWw.out)
   clear hnew
   clear HK5' HBa HIP
   generalize w4.heap.size = p4 at *
   obtain ⟨ln, hln⟩ : ∃ n, l.length = n := ⟨_, rfl⟩
   have HLN := Lib.hid hln
   have HS1 := Lib.hid (fun w' (hb : Below W5.heap.size W5 w') a2 c2 (h2 : Ints w' (.slice a2 l.length c2) l) => same36 ⟨l, us, r⟩ ⟨l, us, r⟩ ap a2 cp c2 w' (HIP5.out.below hb) h2)
   rw [hln] at HK5 HIP5 HLE HS1
   clear hln
   have hle := HLE.out
   have hk5 := HK5.out
   have y0 := hk5.cell 0
   have y1 := hk5.cell 1
   have y2 := hk5.cell 2
   have hz5 := hk5.lt
   simp only [List.getElem?_cons_zero, List.getElem?_cons_succ] at y0 y1 y2
   clear hk5
   have hz0 : w.heap.size < (W5).heap.size := HTW.out.bt.lt
   have hz1 : w.heap.size + 1 < (W5).heap.size := HTW.out.bw.lt
   rcases Classical.em (r = 0) with hr | hr
   · subst hr
     have hl0 : (0 : Int) < (ln : Int) := by
      have h1 := (HOK.out.er).1 rfl
      have h2 : 0 < l.length := List.length_pos_iff.2 h1
      rw [HLN.out] at h2; omega
     have hl0n : 0 < ln := by omega
     have hl0d : decide (0 < ln) = true := by simp [hl0n]
     refine region_ways (.rd 0 (.rd 1 (.rd 2 (.rd 3 (.one 4 (.one 5 (.one 6 (.one 7 (.rd 8 (.rd 9 (.rd 10 (.rd 11 (.rd 12 (.rd 13 (.rd 14 (.rd 15 (.one 16 .done))))))))))))))))) (fun w' => Below W5.heap.size W5 w') (by kernel_rfl) (by kernel_rfl) ((Below.refl _ _).drew) (fun KK hKK => ?_)
     intro OPS
     simp only [Ways.see, List.getElem?_cons_zero, List.getElem?_cons_succ]
     iterate 4
      (refine' inWays_read ?_ ?_ ?_ ?_
       rotate_left 2
       · rfl
       · (intro w' hS; obtain ⟨hcc, hff⟩ := bcell hS; go_simp; first | done | with_reducible rfl)
       · (simp only [Act.put, List.setIfInBounds_toArray, List.set_cons_zero, List.set_cons_succ]; with_reducible rfl))
     refine' inWays_call ?_ ?_ ?_
     rotate_left 2
     · rfl
     · (obtain ⟨hcc, hff⟩ := bcell ((Below.refl W5.heap.size W5).drew); go_simp; first | done | exact ⟨rfl, rfl⟩)
     refine (HP2.out _ (bl_then HTW.out.bl ((Below.refl W5.heap.size W5).drew))).mono ?_
     rintro e w6 ⟨ap2, cp2, rfl, hip2, hbp2⟩
     have HB6 : Hid (Below W5.heap.size W5 w6) := Lib.hid (bl_then ((Below.refl W5.heap.size W5).drew) hbp2)
     dsimp only at hip2 ⊢
     have HIQ := Lib.hid (hip2.ints (by rw [HLN.out]; unfold maxLen; omega))
     rw [HLN.out] at HIQ ⊢
     have HSM := Lib.hid (HS1.out w6 HB6.out ap2 cp2 HIQ.out)
     clear hip2 hbp2
     refine ⟨_, rfl, HB6.out, ?_⟩
     simp only [Act.put, List.setIfInBounds_toArray, List.set_cons_zero, List.set_cons_succ]
     refine' inWays_call ?_ ?_ ?_
     rotate_left 2
     · rfl
     · (obtain ⟨hcc, hff⟩ := bcell HB6.out; go_simp; first | done | exact ⟨rfl, rfl⟩)
     refine HSM.out.mono ?_
     rintro e w7 ⟨rfl, hb7⟩
     have HB7 : Hid (Below W5.heap.size W5 w7) := Lib.hid (bl_then HB6.out hb7)
     clear hb7
     refine ⟨_, rfl, HB7.out, ?_⟩
     rw [same_eq rfl rfl rfl]
     simp only [Act.put, List.setIfInBounds_toArray, List.set_cons_zero, List.set_cons_succ]
     refine' inWays_val ?_ ?_ ?_ ?_ ?_
     rotate_left 3
     · rfl
     · (obtain ⟨hcc, hff⟩ := bcell HB7.out; go_simp; first | done | exact ⟨rfl, rfl⟩ | with_reducible rfl)
     · exact HB7.out
     · (simp only [Act.put, List.setIfInBounds_toArray, List.set_cons_zero, List.set_cons_succ]; with_reducible rfl)
     refine' inWays_val ?_ ?_ ?_ ?_ ?_
     rotate_left 3
     · rfl
     · (obtain ⟨hcc, hff⟩ := bcell HB7.out; go_simp; first | done | exact ⟨rfl, rfl⟩ | with_reducible rfl)
     · exact HB7.out
     · (simp only [Act.put, List.setIfInBounds_toArray, List.set_cons_zero, List.set_cons_succ]; with_reducible rfl)
     iterate 8
      (refine' inWays_read ?_ ?_ ?_ ?_
       rotate_left 2
       · rfl
       · (intro w' hS; obtain ⟨hcc, hff⟩ := bcell hS; go_simp; first | done | with_reducible rfl)
       · (simp only [Act.put, List.setIfInBounds_toArray, List.set_cons_zero, List.set_cons_succ]; with_reducible rfl))
     refine' inWays_val ?_ ?_ ?_ ?_ ?_
     rotate_left 3
     · rfl
     · (obtain ⟨hcc, hff⟩ := bcell HB7.out; go_simp; first | done | exact ⟨rfl, rfl⟩ | with_reducible rfl)
     · exact HB7.out
     · (simp only [Act.put, List.setIfInBounds_toArray, List.set_cons_zero, List.set_cons_succ]; with_reducible rfl)
     refine inWays_nil (hKK.out _ _ ?_)
     clear hKK OPS
     have HK7 := Lib.hid (HK5.out.below HB7.out)
     have HIP7 := Lib.hid (HIP5.out.below HB7.out)
     clear y0 y1 y2 hz5 hz0 hz1
     have hnew := HTW.out.below HB7.out
     clear kt0 kt1 kt2 kt3 kt4 kt5 kt6 kt7 kt8 kt9 kt10 kt11 kt12 kt13 kt14
     clear b0 b1 b2 b3 b4 b5 b6 b7 b8 b9 bA bB bC
     clear HTWt HTWw
     clear HTW
     have HTW := Lib.hid (hnew)
     have HTWt := Lib.hid HTW.out.bt
     have HTWw := Lib.hid HTW.out.bw
     obtain ⟨kt0, kt1, kt2, kt3, kt4, kt5, kt6, kt7, kt8, kt9, kt10, kt11, kt12, kt13, kt14⟩ := tab15 (HTWt.out)
     obtain ⟨b0, b1, b2, b3, b4, b5, b6, b7, b8, b9, bA, bB, bC⟩ := wd13 (HTWw.out)
     clear hnew
     clear HK5 HIP5 HB6 HIQ HS1 HSM
     have hk5 := HK7.out
     have y0 := hk5.cell 0
     have y1 := hk5.cell 1
     have y2 := hk5.cell 2
     have hz5 := hk5.lt
     simp only [List.getElem?_cons_zero, List.getElem?_cons_succ] at y0 y1 y2
     clear hk5
     have hz0 : w.heap.size < (w7).heap.size := HTW.out.bt.lt
     have hz1 : w.heap.size + 1 < (w7).heap.size := HTW.out.bw.lt
     as_aux_lemma =>
      go_wp2_with fail
      clear y0 y1 y2 hz5 hz0 hz1
      clear kt0 kt1 kt2 kt3 kt4 kt5 kt6 kt7 kt8 kt9 kt10 kt11 kt12 kt13 kt14
      clear b0 b1 b2 b3 b4 b5 b6 b7 b8 b9 bA bB bC
      clear HTWt HTWw
      go_loopw [8] (fun iv wr => ∃ i : Nat, iv = .int .i64 i ∧ i ≤ ln ∧ Hid (Below w7.heap.size w7 wr)) (fun iv _ => ln - (intOf iv).toNat)
      case atStart => exact ⟨0, rfl, Nat.zero_le _, Lib.hid (Below.refl _ _)⟩
      case round =>
       obtain ⟨i, rfl, hil, HBL⟩ := hrel
       obtain ⟨wo, rfl⟩ : ∃ wo, wo = wr := ⟨wr, rfl⟩
       have HTW0 := Lib.hid (HTW.out.below HBL.out)
       have HKo := Lib.hid (HK7.out.below HBL.out)
       have HIPo := Lib.hid (HIP7.out.below HBL.out)
       have HTWs := HTW
       clear HTW
       have HTW := Lib.hid (HTW0.out)
       have HTWt := Lib.hid HTW.out.bt
       have HTWw := Lib.hid HTW.out.bw
       obtain ⟨kt0, kt1, kt2, kt3, kt4, kt5, kt6, kt7, kt8, kt9, kt10, kt11, kt12, kt13, kt14⟩ := tab15 (HTWt.out)
       obtain ⟨b0, b1, b2, b3, b4, b5, b6, b7, b8, b9, bA, bB, bC⟩ := wd13 (HTWw.out)
       have hk5 := HKo.out
       have y0 := hk5.cell 0
       have y1 := hk5.cell 1
       have y2 := hk5.cell 2
       have hz5 := hk5.lt
       simp only [List.getElem?_cons_zero, List.getElem?_cons_succ] at y0 y1 y2
       clear hk5
       have hz0 : w.heap.size < (wo).heap.size := HTW.out.bt.lt
       have hz1 : w.heap.size + 1 < (wo).heap.size := HTW.out.bw.lt
       by_cases hlt : i < ln
       · have hlt2 : (i : Int) < (ln : Int) := by omega
         have hiL : i < l.length := by rw [HLN.out]; exact hlt
         obtain ⟨bx, ox, hax, hbx, hcx⟩ := HIPo.out.at2 (by omega)
         subst hax
         have hci := hcx i hiL
         have HCX := Lib.hid hcx
         have HMEM := Lib.hid (HOK.out.mem _ (List.getElem_mem hiL))
         obtain ⟨y, hy⟩ : ∃ y, l[i] = y := ⟨_, rfl⟩
         rw [hy] at hci HMEM
         have HY := Lib.hid hy
         clear hcx hy
         have HSX := Lib.hid (HSE.out y)
         go_upto_region 9 with (fail)
         go_cut [64] (fun s wx => s = .bool false ∧ Hid (Below wo.heap.size wo wx))
         case first =>
          cases hsy : sees y with
          | true =>
            rw [hsy] at HSX
            clear hsy
            refine region_text (fun w' => Below (wo).heap.size wo w') (by kernel_rfl) (by kernel_rfl) ((Below.refl _ _).drew) (fun KK hKK => ?_)
            intro OPS
            try simp only [List.append]
            repeat (first
             | (refine' inText_val ?_ ?_ ?_ ?_
                rotate_left 2
                · rfl
                · (intro w' hS; obtain ⟨hcc, hff⟩ := bcell hS; go_simp; first | with_reducible rfl | skip)
                · (simp only [Act.put, List.setIfInBounds_toArray, List.set_cons_zero, List.set_cons_succ]; with_reducible rfl))
             | (refine' inText_skip ?_ ?_ ?_
                rotate_left 1
                · rfl
                · (simp only [Act.put, List.setIfInBounds_toArray, List.set_cons_zero, List.set_cons_succ]; with_reducible rfl))
             | (refine' inText_call ?_ ?_ ?_ ?_ ?_
                rotate_left 4
                · rfl
                · (intro w' hS; obtain ⟨hcc, hff⟩ := bcell hS; go_simp; exact ⟨rfl, rfl⟩)
                · (intro w' hS
                   first
                    | ((with_reducible refine (HSX.out w' (bl_then HTW.out.bl hS)).mono ?_); exact fun e w'' h => ⟨h.1, bl_then hS h.2⟩)
                    | ((with_reducible refine (HAW.out w').mono ?_); exact fun e w'' h => ⟨h.1, bl_then hS h.2⟩))
                · (simp only [Act.put, List.setIfInBounds_toArray, List.set_cons_zero, List.set_cons_succ]; with_reducible rfl)))
            refine inText_nil (hKK.out _ (fun w9 hS => ?_))
            have HB9 := Lib.hid hS
            clear hS hKK OPS
            go_wp2_with fail
            go_meet
            case rel => exact ⟨rfl, HB9⟩
          | false =>
            rw [hsy] at HSX
            have hyc : y ∈ car := HMEM.out.resolve_left (by rw [hsy]; simp)
            have HYC := Lib.hid (List.contains_iff_mem.2 hyc)
            clear hsy hyc
            refine region_ways (.rd 0 (.rd 1 (.rd 2 (.rd 3 (.rd 4 (.rd 5 (.rd 6 (.one 7 (.one 8 (.one 9 (.rd 10 (.rd 11 (.rd 13 (.rd 14 (.rd 15 (.rd 16 (.rd 17 (.one 12 (.one 18 (.one 19 (.one 20 .done))))))))))))))))))))) (fun w' => Below wo.heap.size wo w') (by kernel_rfl) (by kernel_rfl) ((Below.refl _ _).drew) (fun KK hKK => ?_)
            intro OPS
            simp only [Ways.see, List.getElem?_cons_zero, List.getElem?_cons_succ]
            iterate 7
             (refine' inWays_read ?_ ?_ ?_ ?_
              rotate_left 2
              · rfl
              · (intro w' hS; obtain ⟨hcc, hff⟩ := bcell hS; go_simp; first | done | with_reducible rfl)
              · (simp only [Act.put, List.setIfInBounds_toArray, List.set_cons_zero, List.set_cons_succ]; with_reducible rfl))
            refine' inWays_call ?_ ?_ ?_
            rotate_left 2
            · rfl
            · (obtain ⟨hcc, hff⟩ := bcell ((Below.refl wo.heap.size wo).drew); go_simp; first | done | exact ⟨rfl, rfl⟩)
            refine (HSX.out _ (bl_then HTW.out.bl ((Below.refl wo.heap.size wo).drew))).mono ?_
            rintro e w9 ⟨rfl, hb9⟩
            have HB9 : Hid (Below wo.heap.size wo w9) := Lib.hid (bl_then ((Below.refl wo.heap.size wo).drew) hb9)
            clear hb9
            refine ⟨_, rfl, HB9.out, ?_⟩
            simp only [Act.put, List.setIfInBounds_toArray, List.set_cons_zero, List.set_cons_succ]
            refine' inWays_val ?_ ?_ ?_ ?_ ?_
            rotate_left 3
            · rfl
            · (obtain ⟨hcc, hff⟩ := bcell HB9.out; go_simp; first | done | exact ⟨rfl, rfl⟩ | with_reducible rfl)
            · exact HB9.out
            · (simp only [Act.put, List.setIfInBounds_toArray, List.set_cons_zero, List.set_cons_succ]; with_reducible rfl)
            refine' inWays_val ?_ ?_ ?_ ?_ ?_
            rotate_left 3
            · rfl
            · (obtain ⟨hcc, hff⟩ := bcell HB9.out; go_simp; first | done | exact ⟨rfl, rfl⟩ | with_reducible rfl)
            · exact HB9.out
            · (simp only [Act.put, List.setIfInBounds_toArray, List.set_cons_zero, List.set_cons_succ]; with_reducible rfl)
            iterate 7
             (refine' inWays_read ?_ ?_ ?_ ?_
              rotate_left 2
              · rfl
              · (intro w' hS; obtain ⟨hcc, hff⟩ := bcell hS; go_simp; first | done | with_reducible rfl)
              · (simp only [Act.put, List.setIfInBounds_toArray, List.set_cons_zero, List.set_cons_succ]; with_reducible rfl))
            refine' inWays_call ?_ ?_ ?_
            rotate_left 2
            · rfl
            · (obtain ⟨hcc, hff⟩ := bcell HB9.out; go_simp; first | done | exact ⟨rfl, rfl⟩)
            refine (HCR.out _ (bl_then HTW.out.bl HB9.out)).mono ?_
            rintro e wA ⟨vA, rfl, gA, hbA⟩
            obtain ⟨aA, cA, rfl⟩ := gA.shape
            have HBA : Hid (Below wo.heap.size wo wA) := Lib.hid (bl_then HB9.out hbA)
            have HIA := Lib.hid (gA.ints (by unfold maxLen; have := HCL.out; omega))
            clear gA hbA
            refine ⟨_, rfl, HBA.out, ?_⟩
            simp only [Act.put, List.setIfInBounds_toArray, List.set_cons_zero, List.set_cons_succ]
            refine' inWays_call ?_ ?_ ?_
            rotate_left 2
            · rfl
            · (obtain ⟨hcc, hff⟩ := bcell HBA.out; go_simp; first | done | exact ⟨rfl, rfl⟩)
            refine (amongL aA car cA y _ HIA.out).mono ?_
            rintro e wC ⟨rfl, rfl⟩
            refine ⟨_, rfl, HBA.out, ?_⟩
            rw [HYC.out]
            simp only [Act.put, List.setIfInBounds_toArray, List.set_cons_zero, List.set_cons_succ]
            refine' inWays_val ?_ ?_ ?_ ?_ ?_
            rotate_left 3
            · rfl
            · (obtain ⟨hcc, hff⟩ := bcell HBA.out; go_simp; first | done | exact ⟨rfl, rfl⟩ | with_reducible rfl)
            · exact HBA.out
            · (simp only [Act.put, List.setIfInBounds_toArray, List.set_cons_zero, List.set_cons_succ]; with_reducible rfl)
            refine' inWays_val ?_ ?_ ?_ ?_ ?_
            rotate_left 3
            · rfl
            · (obtain ⟨hcc, hff⟩ := bcell HBA.out; go_simp; first | done | exact ⟨rfl, rfl⟩ | with_reducible rfl)
            · exact HBA.out
            · (simp only [Act.put, List.setIfInBounds_toArray, List.set_cons_zero, List.set_cons_succ]; with_reducible rfl)
            refine inWays_nil (hKK.out _ _ ?_)
            clear hKK OPS
            go_wp2_with fail
            go_meet
            case rel => exact ⟨rfl, HBA⟩
         case rest =>
          obtain ⟨rfl, HBC⟩ := hcut
          clear y0 y1 y2 hz5 hz0 hz1
          clear kt0 kt1 kt2 kt3 kt4 kt5 kt6 kt7 kt8 kt9 kt10 kt11 kt12 kt13 kt14
          clear b0 b1 b2 b3 b4 b5 b6 b7 b8 b9 bA bB bC
          clear HTWt HTWw
          clear hci
          obtain ⟨wd, rfl⟩ : ∃ wd, wd = wc := ⟨wc, rfl⟩
          as_aux_lemma =>
           have HBD := Lib.hid (bl_then HBL.out HBC.out)
           clear HBC HBL HTW HTW0 HKo HIPo
           go_wp2_with fail
           go_loopw [9] (fun kv wr => ∃ k : Nat, kv = .int .i64 k ∧ k ≤ i ∧ Hid (Below w7.heap.size w7 wr)) (fun kv _ => i - (intOf kv).toNat)
           case atStart => exact ⟨0, rfl, Nat.zero_le _, HBD⟩
           case round =>
            obtain ⟨k, rfl, hki, HBK⟩ := hrel
            by_cases hkl : k < i
            · have hkl2 : (k : Int) < (i : Int) := by omega
              have hkL : k < l.length := by rw [HLN.out]; omega
              have hiL2 : i < l.length := by rw [HLN.out]; exact hlt
              have hkn : (k : Int) < (ln : Int) := by omega
              have hbx7 := HIP7.out.at2 (by omega)
              obtain ⟨b7, o7, ha7, hb7, hc7⟩ := hbx7
              simp only [Option.some.injEq, Addr.mk.injEq, and_true] at ha7
              obtain ⟨rfl, rfl⟩ := ha7
              have hck := (HBK.out.cell (p := ⟨bx, ox + k, none⟩) hb7).trans (hc7 k hkL)
              have hci := (HBK.out.cell (p := ⟨bx, ox + i, none⟩) hb7).trans (hc7 i hiL2)
              have hne : l[k] ≠ l[i] := List.pairwise_iff_getElem.1 HOK.out.nd k i hkL hiL2 hkl
              generalize l[k] = yk at hck hne
              generalize l[i] = yi at hci hne
              have hnb : (yk == yi) = false := by simp [hne]
              have hKr := HK7.out.below HBK.out
              have y0 := hKr.cell 0
              have hz5 := hKr.lt
              simp only [List.getElem?_cons_zero, List.getElem?_cons_succ] at y0
              have hbxr : bx < wr.heap.size := Nat.lt_of_lt_of_le hb7 HBK.out.size
              clear hc7 hKr hne
              go_wp2_with fail
              refine region_text (fun w' => Below wr.heap.size wr w') (by kernel_rfl) (by kernel_rfl) ((Below.refl _ _).drew) (fun KK hKK => ?_)
              intro OPS
              try simp only [List.append]
              repeat (refine' inText_val ?_ ?_ ?_ ?_
                      rotate_left 2
                      · rfl
                      · (intro w' hS; obtain ⟨hcc, hff⟩ := bcell hS; go_simp; first | with_reducible rfl | skip)
                      · (simp only [Act.put, List.setIfInBounds_toArray, List.set_cons_zero, List.set_cons_succ]; with_reducible rfl))
              refine inText_nil (hKK.out _ (fun w9 hS => ?_))
              have HB9 := Lib.hid (bl_then HBK.out hS)
              clear hS hKK OPS hck hci y0 hz5
              go_wp2_with fail
              go_roundw
              case rel => exact ⟨k + 1, by go_num, by omega, HB9⟩
              case measure => simp [intOf]; omega
            · have hkl2 : ¬ ((k : Int) < (i : Int)) := by omega
              go_wp2_with fail
              go_roundw
              case rel => exact ⟨i + 1, by go_num, by omega, HBK⟩
              case measure => simp [intOf]; omega
       · have hlt2 : ¬ ((i : Int) < (ln : Int)) := by omega
         go_wp2_with fail
         clear y0 y1 y2 hz5 hz0 hz1
         refine (HAW.out _).mono ?_
         rintro e w9 ⟨rfl, hb9⟩
         have HB9 := Lib.hid (bl_then HTW.out.bl hb9)
         clear hb9
         clear kt0 kt1 kt2 kt3 kt4 kt5 kt6 kt7 kt8 kt9 kt10 kt11 kt12 kt13 kt14
         clear b0 b1 b2 b3 b4 b5 b6 b7 b8 b9 bA bB bC
         clear HTWt HTWw
         go_wp2_with fail
         go_ret
         exact ⟨rfl, HB9.out⟩
   · have hl0 : ln = 0 := by
       have h1 : l = [] := Classical.byContradiction (fun h => hr ((HOK.out.er).2 h))
       rw [← HLN.out, h1]; rfl
     subst hl0
     have hr0 : (r == 0) = false := by simp [hr]
     refine region_ways (.rd 0 (.rd 1 (.rd 2 (.rd 3 (.one 4 (.one 5 (.one 6 (.one 7 (.rd 8 (.rd 9 (.rd 10 (.rd 11 (.rd 12 (.rd 13 (.rd 14 (.rd 15 (.one 16 .done))))))))))))))))) (fun w' => Below W5.heap.size W5 w') (by kernel_rfl) (by kernel_rfl) ((Below.refl _ _).drew) (fun KK hKK => ?_)
     intro OPS
     simp only [Ways.see, List.getElem?_cons_zero, List.getElem?_cons_succ]
     iterate 4
      (refine' inWays_read ?_ ?_ ?_ ?_
       rotate_left 2
       · rfl
       · (intro w' hS; obtain ⟨hcc, hff⟩ := bcell hS; go_simp; first | done | with_reducible rfl)
       · (simp only [Act.put, List.setIfInBounds_toArray, List.set_cons_zero, List.set_cons_succ]; with_reducible rfl))
     refine' inWays_call ?_ ?_ ?_
     rotate_left 2
     · rfl
     · (obtain ⟨hcc, hff⟩ := bcell ((Below.refl W5.heap.size W5).drew); go_simp; first | done | exact ⟨rfl, rfl⟩)
     refine (HP2.out _ (bl_then HTW.out.bl ((Below.refl W5.heap.size W5).drew))).mono ?_
     rintro e w6 ⟨ap2, cp2, rfl, hip2, hbp2⟩
     have HB6 : Hid (Below W5.heap.size W5 w6) := Lib.hid (bl_then ((Below.refl W5.heap.size W5).drew) hbp2)
     dsimp only at hip2 ⊢
     have HIQ := Lib.hid (hip2.ints (by rw [HLN.out]; unfold maxLen; omega))
     rw [HLN.out] at HIQ ⊢
     have HSM := Lib.hid (HS1.out w6 HB6.out ap2 cp2 HIQ.out)
     clear hip2 hbp2
     refine ⟨_, rfl, HB6.out, ?_⟩
     simp only [Act.put, List.setIfInBounds_toArray, List.set_cons_zero, List.set_cons_succ]
     refine' inWays_call ?_ ?_ ?_
     rotate_left 2
     · rfl
     · (obtain ⟨hcc, hff⟩ := bcell HB6.out; go_simp; first | done | exact ⟨rfl, rfl⟩)
     refine HSM.out.mono ?_
     rintro e w7 ⟨rfl, hb7⟩
     have HB7 : Hid (Below W5.heap.size W5 w7) := Lib.hid (bl_then HB6.out hb7)
     clear hb7
     refine ⟨_, rfl, HB7.out, ?_⟩
     rw [same_eq rfl rfl rfl]
     simp only [Act.put, List.setIfInBounds_toArray, List.set_cons_zero, List.set_cons_succ]
     refine' inWays_val ?_ ?_ ?_ ?_ ?_
     rotate_left 3
     · rfl
     · (obtain ⟨hcc, hff⟩ := bcell HB7.out; go_simp; first | done | exact ⟨rfl, rfl⟩ | with_reducible rfl)
     · exact HB7.out
     · (simp only [Act.put, List.setIfInBounds_toArray, List.set_cons_zero, List.set_cons_succ]; with_reducible rfl)
     refine' inWays_val ?_ ?_ ?_ ?_ ?_
     rotate_left 3
     · rfl
     · (obtain ⟨hcc, hff⟩ := bcell HB7.out; go_simp; first | done | exact ⟨rfl, rfl⟩ | with_reducible rfl)
     · exact HB7.out
     · (simp only [Act.put, List.setIfInBounds_toArray, List.set_cons_zero, List.set_cons_succ]; with_reducible rfl)
     iterate 8
      (refine' inWays_read ?_ ?_ ?_ ?_
       rotate_left 2
       · rfl
       · (intro w' hS; obtain ⟨hcc, hff⟩ := bcell hS; go_simp; first | done | with_reducible rfl)
       · (simp only [Act.put, List.setIfInBounds_toArray, List.set_cons_zero, List.set_cons_succ]; with_reducible rfl))
     refine' inWays_val ?_ ?_ ?_ ?_ ?_
     rotate_left 3
     · rfl
     · (obtain ⟨hcc, hff⟩ := bcell HB7.out; go_simp; first | done | exact ⟨rfl, rfl⟩ | with_reducible rfl)
     · exact HB7.out
     · (simp only [Act.put, List.setIfInBounds_toArray, List.set_cons_zero, List.set_cons_succ]; with_reducible rfl)
     refine inWays_nil (hKK.out _ _ ?_)
     clear hKK OPS
     have HK7 := Lib.hid (HK5.out.below HB7.out)
     clear y0 y1 y2 hz5 hz0 hz1
     have hnew := HTW.out.below HB7.out
     clear kt0 kt1 kt2 kt3 kt4 kt5 kt6 kt7 kt8 kt9 kt10 kt11 kt12 kt13 kt14
     clear b0 b1 b2 b3 b4 b5 b6 b7 b8 b9 bA bB bC
     clear HTWt HTWw
     clear HTW
     have HTW := Lib.hid (hnew)
     have HTWt := Lib.hid HTW.out.bt
     have HTWw := Lib.hid HTW.out.bw
     obtain ⟨kt0, kt1, kt2, kt3, kt4, kt5, kt6, kt7, kt8, kt9, kt10, kt11, kt12, kt13, kt14⟩ := tab15 (HTWt.out)
     obtain ⟨b0, b1, b2, b3, b4, b5, b6, b7, b8, b9, bA, bB, bC⟩ := wd13 (HTWw.out)
     clear hnew
     clear HK5 HIP5 HB6 HIQ HS1 HSM
     have hk5 := HK7.out
     have y0 := hk5.cell 0
     have y1 := hk5.cell 1
     have y2 := hk5.cell 2
     have hz5 := hk5.lt
     simp only [List.getElem?_cons_zero, List.getElem?_cons_succ] at y0 y1 y2
     clear hk5
     have hz0 : w.heap.size < (w7).heap.size := HTW.out.bt.lt
     have hz1 : w.heap.size + 1 < (w7).heap.size := HTW.out.bw.lt
     as_aux_lemma =>
      go_wp2_with fail
      clear y0 y1 y2 hz5 hz0 hz1
      clear kt0 kt1 kt2 kt3 kt4 kt5 kt6 kt7 kt8 kt9 kt10 kt11 kt12 kt13 kt14
      clear b0 b1 b2 b3 b4 b5 b6 b7 b8 b9 bA bB bC
      clear HTWt HTWw
      go_loopw [8] (fun iv wr => iv = .int .i64 0 ∧ Hid (Below w7.heap.size w7 wr)) (fun iv _ => 0)
      case atStart => exact ⟨rfl, Lib.hid (Below.refl _ _)⟩
      case round =>
       obtain ⟨rfl, HBL⟩ := hrel
       have HTW0 := Lib.hid (HTW.out.below HBL.out)
       have HKo := Lib.hid (HK7.out.below HBL.out)
       have HTWs := HTW
       clear HTW
       have HTW := Lib.hid (HTW0.out)
       have HTWt := Lib.hid HTW.out.bt
       have HTWw := Lib.hid HTW.out.bw
       obtain ⟨kt0, kt1, kt2, kt3, kt4, kt5, kt6, kt7, kt8, kt9, kt10, kt11, kt12, kt13, kt14⟩ := tab15 (HTWt.out)
       obtain ⟨b0, b1, b2, b3, b4, b5, b6, b7, b8, b9, bA, bB, bC⟩ := wd13 (HTWw.out)
       have hk5 := HKo.out
       have y0 := hk5.cell 0
       have y1 := hk5.cell 1
       have y2 := hk5.cell 2
       have hz5 := hk5.lt
       simp only [List.getElem?_cons_zero, List.getElem?_cons_succ] at y0 y1 y2
       clear hk5
       have hz0 : w.heap.size < (wr).heap.size := HTW.out.bt.lt
       have hz1 : w.heap.size + 1 < (wr).heap.size := HTW.out.bw.lt
       go_wp2_with fail
       clear y0 y1 y2 hz5 hz0 hz1
       refine (HAW.out _).mono ?_
       rintro e w9 ⟨rfl, hb9⟩
       have HB9 := Lib.hid (bl_then HTW.out.bl hb9)
       clear hb9
       clear kt0 kt1 kt2 kt3 kt4 kt5 kt6 kt7 kt8 kt9 kt10 kt11 kt12 kt13 kt14
       clear b0 b1 b2 b3 b4 b5 b6 b7 b8 b9 bA bB bC
       clear HTWt HTWw
       go_wp2_with fail
       go_ret
       exact ⟨rfl, HB9.out⟩
end Go.Proofs.YtjggklfegcejhaaGreat
