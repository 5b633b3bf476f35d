/- The walk of NounItem. -/
import Derived.Test.YtjggklfegcejhaaGreatLawAM
import Derived.Test.YtjggklfegcejhaaGreatItemC
namespace Go.Proofs.YtjggklfegcejhaaGreat
open Go.RowKit Go.PlainAid Go.Deep
set_option linter.unusedVariables false
set_option linter.unusedSimpArgs false

theorem map_key : ∀ {l : List TxC}, (∀ s ∈ l, WordOk s) → l.map keyW = l
 | [], _ => rfl
 | a :: l, h => by rw [List.map_cons, wordOk_key (h a (List.mem_cons_self ..)), map_key (fun s hs => h s (List.mem_cons_of_mem _ hs))]
theorem FitsOk.keys {t : TbC} (h : FitsOk t) : KeyOk t := fun y hy => by
 have h2 := h.th.words y hy
 exact ⟨map_key h2.1.1, map_key h2.2.1⟩
theorem dup_of {t : TbC} {q : Wv} {d : WdC} (h : RightOk t q d) : ∀ x, (kidsW d.ch d.nx t.th.length x).Nodup := by have := h.nest.dup; rwa [h.h1] at this
theorem item_us2 (r : Int × Nat × Int) : (itemN r).us = r.2.1 := by unfold itemN; split <;> rfl
theorem item_form2 {r : Int × Nat × Int} {l : List Int} {u : Nat} {e : Int} (h : itemN r = ⟨l, u, e⟩) : (e = 0 ∧ ∃ x, l = [x]) ∨ (e ≠ 0 ∧ l = []) := by
 unfold itemN at h
 split at h
 · rename_i he
   simp only [PhC.mk.injEq] at h
   exact .inl ⟨h.2.2.symm, _, h.1.symm⟩
 · rename_i he
   simp only [PhC.mk.injEq] at h
   exact .inr ⟨by rw [← h.2.2]; exact he, h.1.symm⟩
set_option maxRecDepth 100000 in
set_option maxHeartbeats 16000000 in
theorem walkItem (x : TAd) (t : TbC) (q : Wv) (d : WdC) (a : Option Addr) (ws : List TxC) (c : Nat) (w : World) (ht : TabIs w x t) (hw : WRd w q d) (hws : Wds w a ws) (hc : ws.length ≤ c) :
    Calls Tryz.prog 3 #[tabV x t, worldV q, .slice a ws.length c] w fun e w' => e = .returned (.bool true) ∧ Below w.heap.size w w' := by
 have hnew := Two.new x t q w
 obtain ⟨W0, hW0⟩ : ∃ W0, (w.alloc (.cells (tabC x t).toArray 28)).alloc (.cells (worldC q).toArray 31) = W0 := ⟨_, rfl⟩
 rw [hW0] at hnew
 have HMY := Lib.hid (fun w' (hb : Below w.heap.size w w') => mayC x t q d a ws c w' (ht.below hb) (hw.below hb) (hws.below hb))
 have HP1 := Lib.hid (fun (hk : MayOk t q d ws) w' (hb : Below w.heap.size w w') => itemC x t q d a ws c w' (ht.below hb) (hk.rt.ok hk.fit (hw.below hb)) (fun y => reach_few hk.rt (hk.rt.ok hk.fit hw) y) (hws.below hb) hc (Nat.le_trans hk.few (by decide)))
 have HP2 := Lib.hid (fun (hk : MayOk t q d ws) w' (hb : Below w.heap.size w w') => refItem x t q d a ws c w' (ht.below hb) (hk.rt.ok hk.fit (hw.below hb)) (dup_of hk.rt) hk.fit.keys hk.fit.tw.two (hws.below hb) hc (Nat.le_trans hk.few (by decide)))
 have HP3 := Lib.hid (fun (hk : MayOk t q d ws) w' (hb : Below w.heap.size w w') => parseC x t q d a ws c false w' (ht.below hb) (hk.rt.ok hk.fit (hw.below hb)) (fun y => reach_few hk.rt (hk.rt.ok hk.fit hw) y) (hws.below hb) hc (Nat.le_trans hk.few (by decide)))
 have HSE := Lib.hid (fun (hk : MayOk t q d ws) y w' (hb : Below w.heap.size w w') => ref23Sees x t q d t.th.length y w' (hk.rt.ok hk.fit (hw.below hb)) (dup_of hk.rt))
 have HUS : Hid ((itemN (oneW t q d (ws.map keyW))).us ≤ ws.length) := Lib.hid (by rw [item_us2]; have := one_used t (seenTo (seesN d t.th.length) t.th.length) (isW t.th.length q.it && seesN d t.th.length q.it) q.it (ws.map keyW); rw [List.length_map] at this; exact this)
 have HFO := Lib.hid (fun (l : List Int) u e => item_form2 (r := oneW t q d (ws.map keyW)) (l := l) (u := u) (e := e))
 have HSN : Hid (∀ x, x ∈ (itemN (oneW t q d (ws.map keyW))).th → seesN d t.th.length x = true) := Lib.hid (fun x hx => (item_ok (S := fun y => seesN d t.th.length y = true) (ws.map keyW) (fun y u h => one_sees h)).mem x hx)
 have HPA : Hid (parseN (oneW t q d) (visN d t.th.length) (reachV d t.th.length 1) (ws.map keyW) false = itemN (oneW t q d (ws.map keyW))) := Lib.hid rfl
 rw [HPA.out] at HP3
 generalize itemN (oneW t q d (ws.map keyW)) = PH at *
 obtain ⟨l, us, r⟩ := PH
 have HAW := Lib.hid (fun w' => awake36 w')
 obtain ⟨m, hm⟩ : ∃ m, ws.length = m := ⟨_, rfl⟩
 have HWM := Lib.hid hm
 rw [hm] at HMY HP1 HP2 HP3 HUS ⊢
 clear ht hw hws hc hm
 have HTW := Lib.hid (hnew)
 have HTWt := Lib.hid HTW.out.bt
 have HTWw := Lib.hid HTW.out.bw
 obtain ⟨kt0, kt1, kt2, kt3, kt4, kt5, kt6, kt7, kt8, kt9, kt10, kt11, kt12, kt13, kt14⟩ := tab15 (HTWt.out)
 obtain ⟨b0, b1, b2, b3, b4, b5, b6, b7, b8, b9, bA, bB, bC⟩ := wd13 (HTWw.out)
 clear hnew
 unfold tabV worldV at *
 go_enter Tryz.func3, Tryz.ntmps3
 have HFQ := Lib.hid (HFO.out l us r rfl)
 dsimp only at HUS HSN
 clear HFO HPA
 unfold worldC at HMY HP1 HP2 HP3 HSE hW0 ⊢
 unfold tabC at HMY HP1 HP2 HP3 HSE hW0 ⊢
 go_wp2_with fail
 clear hW0
 refine (HMY.out _ HTW.out.bl).mono ?_
 rintro e w1 ⟨bm, rfl, hbm, hb1⟩
 have HBM := Lib.hid hbm
 have hnew := HTW.out.below hb1
 clear kt0 kt1 kt2 kt3 kt4 kt5 kt6 kt7 kt8 kt9 kt10 kt11 kt12 kt13 kt14
 clear b0 b1 b2 b3 b4 b5 b6 b7 b8 b9 bA bB bC
 clear HTWt HTWw
 clear HTW
 have HTW := Lib.hid (hnew)
 have HTWt := Lib.hid HTW.out.bt
 have HTWw := Lib.hid HTW.out.bw
 obtain ⟨kt0, kt1, kt2, kt3, kt4, kt5, kt6, kt7, kt8, kt9, kt10, kt11, kt12, kt13, kt14⟩ := tab15 (HTWt.out)
 obtain ⟨b0, b1, b2, b3, b4, b5, b6, b7, b8, b9, bA, bB, bC⟩ := wd13 (HTWw.out)
 clear hnew
 clear hbm hb1
 cases bm with
 | false =>
   go_wp2_with fail
   refine (HAW.out _).mono ?_
   rintro e w9 ⟨rfl, hb9⟩
   have HB9 := Lib.hid (bl_then HTW.out.bl hb9)
   clear hb9
   clear kt0 kt1 kt2 kt3 kt4 kt5 kt6 kt7 kt8 kt9 kt10 kt11 kt12 kt13 kt14
   clear b0 b1 b2 b3 b4 b5 b6 b7 b8 b9 bA bB bC
   clear HTWt HTWw
   go_wp2_with fail
   go_ret
   exact ⟨rfl, HB9.out⟩
 | true =>
   have HK := Lib.hid (HBM.out rfl)
   have HP1 := Lib.hid (HP1.out HK.out)
   have HP2 := Lib.hid (HP2.out HK.out)
   have HP3 := Lib.hid (HP3.out HK.out)
   have HSE := Lib.hid (HSE.out HK.out)
   clear HMY HBM
   go_wp2_with fail
   refine (HP1.out _ HTW.out.bl).mono ?_
   rintro e w4 ⟨ap, cp, rfl, hip, hbp, hfp⟩
   have HIP := Lib.hid hip
   have hnew := HTW.out.below hbp
   clear kt0 kt1 kt2 kt3 kt4 kt5 kt6 kt7 kt8 kt9 kt10 kt11 kt12 kt13 kt14
   clear b0 b1 b2 b3 b4 b5 b6 b7 b8 b9 bA bB bC
   clear HTWt HTWw
   clear HTW
   have HTW := Lib.hid (hnew)
   have HTWt := Lib.hid HTW.out.bt
   have HTWw := Lib.hid HTW.out.bw
   obtain ⟨kt0, kt1, kt2, kt3, kt4, kt5, kt6, kt7, kt8, kt9, kt10, kt11, kt12, kt13, kt14⟩ := tab15 (HTWt.out)
   obtain ⟨b0, b1, b2, b3, b4, b5, b6, b7, b8, b9, bA, bB, bC⟩ := wd13 (HTWw.out)
   clear hnew
   clear hip hbp hfp
   dsimp only at HIP ⊢
   go_wp2_with fail
   have HK5' : BK (w4.alloc (.cells #[.slice ap l.length cp, .int .i64 us, .int .i64 r] 36)) w4.heap.size [.slice ap l.length cp, .int .i64 us, .int .i64 r] 36 := BK.new w4 [.slice ap l.length cp, .int .i64 us, .int .i64 r] 36
   have HBa := bl_a (Below.refl w4.heap.size w4) (.cells #[.slice ap l.length cp, .int .i64 us, .int .i64 r] 36)
   generalize w4.alloc (.cells #[.slice ap l.length cp, .int .i64 us, .int .i64 r] 36) = W5 at HK5' HBa ⊢
   have HK5 := Lib.hid HK5'
   have HIP5 := Lib.hid (HIP.out.below HBa)
   have hnew := HTW.out.below HBa
   clear kt0 kt1 kt2 kt3 kt4 kt5 kt6 kt7 kt8 kt9 kt10 kt11 kt12 kt13 kt14
   clear b0 b1 b2 b3 b4 b5 b6 b7 b8 b9 bA bB bC
   clear HTWt HTWw
   clear HTW
   have HTW := Lib.hid (hnew)
   have HTWt := Lib.hid HTW.out.bt
   have HTWw := Lib.hid HTW.out.bw
   obtain ⟨kt0, kt1, kt2, kt3, kt4, kt5, kt6, kt7, kt8, kt9, kt10, kt11, kt12, kt13, kt14⟩ := tab15 (HTWt.out)
   obtain ⟨b0, b1, b2, b3, b4, b5, b6, b7, b8, b9, bA, bB, bC⟩ := wd13 (HTWw.out)
   clear hnew
   clear HK5' HBa HIP
   generalize w4.heap.size = p4 at *
   have hk5 := HK5.out
   have y0 := hk5.cell 0
   have y1 := hk5.cell 1
   have y2 := hk5.cell 2
   have hz5 := hk5.lt
   simp only [List.getElem?_cons_zero, List.getElem?_cons_succ] at y0 y1 y2
   clear hk5
   have hz0 : w.heap.size < (W5).heap.size := HTW.out.bt.lt
   have hz1 : w.heap.size + 1 < (W5).heap.size := HTW.out.bw.lt
   refine region_ways (.rd 0 (.rd 1 (.rd 2 (.rd 3 (.one 4 (.one 5 (.one 6 (.one 7 (.rd 8 (.rd 9 (.rd 10 (.rd 12 (.one 11 (.one 13 (.one 14 (.one 15 .done)))))))))))))))) (fun w' => Below W5.heap.size W5 w') (by kernel_rfl) (by kernel_rfl) ((Below.refl _ _).drew) (fun KK hKK => ?_)
   intro OPS
   simp only [Ways.see, List.getElem?_cons_zero, List.getElem?_cons_succ]
   iterate 4
    (refine' inWays_read ?_ ?_ ?_ ?_
     rotate_left 2
     · rfl
     · (intro w' hS; obtain ⟨hcc, hff⟩ := bcell hS; go_simp; first | done | with_reducible rfl)
     · (simp only [Act.put, List.setIfInBounds_toArray, List.set_cons_zero, List.set_cons_succ]; with_reducible rfl))
   refine' inWays_call ?_ ?_ ?_
   rotate_left 2
   · rfl
   · (obtain ⟨hcc, hff⟩ := bcell ((Below.refl W5.heap.size W5).drew); go_simp; first | done | exact ⟨rfl, rfl⟩)
   refine (HP2.out _ (bl_then HTW.out.bl ((Below.refl W5.heap.size W5).drew))).mono ?_
   rintro e w6 ⟨ap2, cp2, rfl, hip2, hbp2⟩
   have HB6 : Hid (Below W5.heap.size W5 w6) := Lib.hid (bl_then ((Below.refl W5.heap.size W5).drew) hbp2)
   have hl1 : l.length ≤ 1 := by
    rcases HFQ.out with ⟨_, x0, hx⟩ | ⟨_, hx⟩
    · rw [hx]; exact Nat.le_refl _
    · rw [hx]; exact Nat.zero_le _
   dsimp only at hip2 ⊢
   have HIQ := Lib.hid (hip2.ints (by unfold maxLen; omega))
   clear hip2 hbp2 hl1
   refine ⟨_, rfl, HB6.out, ?_⟩
   simp only [Act.put, List.setIfInBounds_toArray, List.set_cons_zero, List.set_cons_succ]
   refine' inWays_call ?_ ?_ ?_
   rotate_left 2
   · rfl
   · (obtain ⟨hcc, hff⟩ := bcell HB6.out; go_simp; first | done | exact ⟨rfl, rfl⟩)
   refine (same36 ⟨l, us, r⟩ ⟨l, us, r⟩ ap ap2 cp cp2 _ (HIP5.out.below HB6.out) HIQ.out).mono ?_
   rintro e w7 ⟨rfl, hb7⟩
   have HB7 : Hid (Below W5.heap.size W5 w7) := Lib.hid (bl_then HB6.out hb7)
   clear hb7
   refine ⟨_, rfl, HB7.out, ?_⟩
   rw [same_eq rfl rfl rfl]
   simp only [Act.put, List.setIfInBounds_toArray, List.set_cons_zero, List.set_cons_succ]
   refine' inWays_val ?_ ?_ ?_ ?_ ?_
   rotate_left 3
   · rfl
   · (obtain ⟨hcc, hff⟩ := bcell HB7.out; go_simp; first | done | exact ⟨rfl, rfl⟩ | with_reducible rfl)
   · exact HB7.out
   · (simp only [Act.put, List.setIfInBounds_toArray, List.set_cons_zero, List.set_cons_succ]; with_reducible rfl)
   refine' inWays_val ?_ ?_ ?_ ?_ ?_
   rotate_left 3
   · rfl
   · (obtain ⟨hcc, hff⟩ := bcell HB7.out; go_simp; first | done | exact ⟨rfl, rfl⟩ | with_reducible rfl)
   · exact HB7.out
   · (simp only [Act.put, List.setIfInBounds_toArray, List.set_cons_zero, List.set_cons_succ]; with_reducible rfl)
   iterate 4
    (refine' inWays_read ?_ ?_ ?_ ?_
     rotate_left 2
     · rfl
     · (intro w' hS; obtain ⟨hcc, hff⟩ := bcell hS; go_simp; first | done | with_reducible rfl)
     · (simp only [Act.put, List.setIfInBounds_toArray, List.set_cons_zero, List.set_cons_succ]; with_reducible rfl))
   refine' inWays_call ?_ ?_ ?_
   rotate_left 2
   · rfl
   · (obtain ⟨hcc, hff⟩ := bcell HB7.out; go_simp; first | done | exact ⟨rfl, rfl⟩)
   refine (HP3.out _ (bl_then HTW.out.bl HB7.out)).mono ?_
   rintro e w8 ⟨ap3, cp3, rfl, hip3, hbp3, _⟩
   have HB8 : Hid (Below W5.heap.size W5 w8) := Lib.hid (bl_then HB7.out hbp3)
   have HIR := Lib.hid hip3
   clear hip3 hbp3
   refine ⟨_, rfl, HB8.out, ?_⟩
   simp only [Act.put, List.setIfInBounds_toArray, List.set_cons_zero, List.set_cons_succ]
   dsimp only at HIR ⊢
   refine' inWays_call ?_ ?_ ?_
   rotate_left 2
   · rfl
   · (obtain ⟨hcc, hff⟩ := bcell HB8.out; go_simp; first | done | exact ⟨rfl, rfl⟩)
   refine (same36 ⟨l, us, r⟩ ⟨l, us, r⟩ ap3 ap cp3 cp _ HIR.out (HIP5.out.below HB8.out)).mono ?_
   rintro e wB ⟨rfl, hbB⟩
   have HBB : Hid (Below W5.heap.size W5 wB) := Lib.hid (bl_then HB8.out hbB)
   clear hbB
   refine ⟨_, rfl, HBB.out, ?_⟩
   rw [same_eq rfl rfl rfl]
   simp only [Act.put, List.setIfInBounds_toArray, List.set_cons_zero, List.set_cons_succ]
   refine' inWays_val ?_ ?_ ?_ ?_ ?_
   rotate_left 3
   · rfl
   · (obtain ⟨hcc, hff⟩ := bcell HBB.out; go_simp; first | done | exact ⟨rfl, rfl⟩ | with_reducible rfl)
   · exact HBB.out
   · (simp only [Act.put, List.setIfInBounds_toArray, List.set_cons_zero, List.set_cons_succ]; with_reducible rfl)
   refine' inWays_val ?_ ?_ ?_ ?_ ?_
   rotate_left 3
   · rfl
   · (obtain ⟨hcc, hff⟩ := bcell HBB.out; go_simp; first | done | exact ⟨rfl, rfl⟩ | with_reducible rfl)
   · exact HBB.out
   · (simp only [Act.put, List.setIfInBounds_toArray, List.set_cons_zero, List.set_cons_succ]; with_reducible rfl)
   refine inWays_nil (hKK.out _ _ ?_)
   clear hKK OPS
   have HK7 := Lib.hid (HK5.out.below HBB.out)
   have HIP7 := Lib.hid (HIP5.out.below HBB.out)
   clear y0 y1 y2 hz5 hz0 hz1
   have hnew := HTW.out.below HBB.out
   clear kt0 kt1 kt2 kt3 kt4 kt5 kt6 kt7 kt8 kt9 kt10 kt11 kt12 kt13 kt14
   clear b0 b1 b2 b3 b4 b5 b6 b7 b8 b9 bA bB bC
   clear HTWt HTWw
   clear HTW
   have HTW := Lib.hid (hnew)
   have HTWt := Lib.hid HTW.out.bt
   have HTWw := Lib.hid HTW.out.bw
   obtain ⟨kt0, kt1, kt2, kt3, kt4, kt5, kt6, kt7, kt8, kt9, kt10, kt11, kt12, kt13, kt14⟩ := tab15 (HTWt.out)
   obtain ⟨b0, b1, b2, b3, b4, b5, b6, b7, b8, b9, bA, bB, bC⟩ := wd13 (HTWw.out)
   clear hnew
   clear HK5 HIP5 HB6 HIQ HB7 HB8 HIR
   have hk5 := HK7.out
   have y0 := hk5.cell 0
   have y1 := hk5.cell 1
   have y2 := hk5.cell 2
   have hz5 := hk5.lt
   simp only [List.getElem?_cons_zero, List.getElem?_cons_succ] at y0 y1 y2
   clear hk5
   have hz0 : w.heap.size < (wB).heap.size := HTW.out.bt.lt
   have hz1 : w.heap.size + 1 < (wB).heap.size := HTW.out.bw.lt
   have husm : (us : Int) ≤ (m : Int) := by have := HUS.out; omega
   as_aux_lemma =>
    rcases HFQ.out with ⟨hr, x0, hx⟩ | ⟨hr, hx⟩
    · subst hr hx
      have HSX := Lib.hid (HSE.out x0)
      rw [HSN.out x0 (List.mem_singleton.2 rfl)] at HSX
      obtain ⟨bx, ox, hax, hbx, hcx⟩ := HIP7.out.at2 (by simp)
      subst hax
      have hx0 := hcx 0 (by simp)
      simp only [Nat.add_zero, List.getElem_cons_zero] at hx0
      simp only [List.length_singleton] at y0
      clear hcx
      go_wp2_with fail
      refine region_text (fun w' => Below (wB).heap.size wB w') (by kernel_rfl) (by kernel_rfl) ((Below.refl _ _).drew) (fun KK hKK => ?_)
      intro OPS
      try simp only [List.append]
      repeat (first
       | (refine' inText_val ?_ ?_ ?_ ?_
          rotate_left 2
          · rfl
          · (intro w' hS; obtain ⟨hcc, hff⟩ := bcell hS; go_simp; first | with_reducible rfl | skip)
          · (simp only [Act.put, List.setIfInBounds_toArray, List.set_cons_zero, List.set_cons_succ]; with_reducible rfl))
       | (refine' inText_skip ?_ ?_ ?_
          rotate_left 1
          · rfl
          · (simp only [Act.put, List.setIfInBounds_toArray, List.set_cons_zero, List.set_cons_succ]; with_reducible rfl))
       | (refine' inText_call ?_ ?_ ?_ ?_ ?_
          rotate_left 4
          · rfl
          · (intro w' hS; obtain ⟨hcc, hff⟩ := bcell hS; go_simp; exact ⟨rfl, rfl⟩)
          · (intro w' hS
             first
              | ((with_reducible refine (HSX.out w' (bl_then HTW.out.bl hS)).mono ?_); exact fun e w'' h => ⟨h.1, bl_then hS h.2⟩)
              | ((with_reducible refine (HAW.out w').mono ?_); exact fun e w'' h => ⟨h.1, bl_then hS h.2⟩))
          · (simp only [Act.put, List.setIfInBounds_toArray, List.set_cons_zero, List.set_cons_succ]; with_reducible rfl)))
      refine inText_nil (hKK.out _ (fun w6 hS => ?_))
      have HBE := Lib.hid (bl_then HTW.out.bl hS)
      clear hS hKK OPS hx0 hbx
      clear y0 y1 y2 hz5 hz0 hz1
      clear kt0 kt1 kt2 kt3 kt4 kt5 kt6 kt7 kt8 kt9 kt10 kt11 kt12 kt13 kt14
      clear b0 b1 b2 b3 b4 b5 b6 b7 b8 b9 bA bB bC
      clear HTWt HTWw
      go_wp2_with fail
      go_ret
      exact ⟨rfl, HBE.out⟩
    · subst hx
      have HSX := Lib.hid (HSE.out 0)
      have hr0 : (r == 0) = false := by simp [hr]
      have hr1 : (r != 0) = true := by simp [hr]
      simp only [List.length_nil] at y0
      go_wp2_with fail
      refine region_text (fun w' => Below (wB).heap.size wB w') (by kernel_rfl) (by kernel_rfl) ((Below.refl _ _).drew) (fun KK hKK => ?_)
      intro OPS
      try simp only [List.append]
      repeat (first
       | (refine' inText_val ?_ ?_ ?_ ?_
          rotate_left 2
          · rfl
          · (intro w' hS; obtain ⟨hcc, hff⟩ := bcell hS; go_simp; first | with_reducible rfl | skip)
          · (simp only [Act.put, List.setIfInBounds_toArray, List.set_cons_zero, List.set_cons_succ]; with_reducible rfl))
       | (refine' inText_skip ?_ ?_ ?_
          rotate_left 1
          · rfl
          · (simp only [Act.put, List.setIfInBounds_toArray, List.set_cons_zero, List.set_cons_succ]; with_reducible rfl))
       | (refine' inText_call ?_ ?_ ?_ ?_ ?_
          rotate_left 4
          · rfl
          · (intro w' hS; obtain ⟨hcc, hff⟩ := bcell hS; go_simp; exact ⟨rfl, rfl⟩)
          · (intro w' hS
             first
              | ((with_reducible refine (HSX.out w' (bl_then HTW.out.bl hS)).mono ?_); exact fun e w'' h => ⟨h.1, bl_then hS h.2⟩)
              | ((with_reducible refine (HAW.out w').mono ?_); exact fun e w'' h => ⟨h.1, bl_then hS h.2⟩))
          · (simp only [Act.put, List.setIfInBounds_toArray, List.set_cons_zero, List.set_cons_succ]; with_reducible rfl)))
      refine inText_nil (hKK.out _ (fun w6 hS => ?_))
      have HBE := Lib.hid (bl_then HTW.out.bl hS)
      clear hS hKK OPS
      clear y0 y1 y2 hz5 hz0 hz1
      clear kt0 kt1 kt2 kt3 kt4 kt5 kt6 kt7 kt8 kt9 kt10 kt11 kt12 kt13 kt14
      clear b0 b1 b2 b3 b4 b5 b6 b7 b8 b9 bA bB bC
      clear HTWt HTWw
      go_wp2_with fail
      go_ret
      exact ⟨rfl, HBE.out⟩
end Go.Proofs.YtjggklfegcejhaaGreat
