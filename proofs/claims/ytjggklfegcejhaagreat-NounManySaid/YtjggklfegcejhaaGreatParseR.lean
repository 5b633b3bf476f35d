/- Contract of clewref36.Parse. -/
import Derived.Test.YtjggklfegcejhaaGreatListR
namespace Go.Proofs.YtjggklfegcejhaaGreat
open Go.RowKit Go.PlainAid
set_option linter.unusedVariables false
set_option linter.unusedSimpArgs false

theorem list_thlen (one : List TxC → Int × Nat × Int) (ks : List TxC) : ∀ (f u : Nat) (l : List Int), (listN one ks f u l).th.length ≤ l.length + f
 | 0, u, l => Nat.le_refl _
 | f + 1, u, l => by
   have ha : ∀ x, (addN l x).length ≤ l.length + 1 := fun x => by
    unfold addN
    split
    · omega
    · rw [List.length_append, List.length_singleton]; exact Nat.le_refl _
   simp only [listN]
   split
   · split
     · have h1 := list_thlen one ks f (u + (one (ks.drop u)).2.1 + 1) (addN l (one (ks.drop u)).1)
       have h2 := ha (one (ks.drop u)).1
       omega
     · have h2 := ha (one (ks.drop u)).1
       simp only; omega
   · simp
theorem left_is {vis car : List Int} {n : Nat} (hv : ∀ y ∈ vis, isW n y = true) (hc : ∀ y ∈ car, isW n y = true) : ∀ y ∈ allN vis car, isW n y = true := fun y hy => by
 unfold allN at hy
 split at hy
 · exact hc y hy
 · exact hv y (List.mem_filter.1 hy).1
theorem filt_take {p : Int → Bool} {L : List Int} {i : Nat} (h : i < L.length) : (L.take (i + 1)).filter p = (L.take i).filter p ++ (if p L[i] = true then [L[i]] else []) := by
 rw [List.take_succ_eq_append_getElem h, List.filter_append]
 congr 1
 by_cases e : p L[i] = true <;> simp [e]
set_option maxRecDepth 100000 in
set_option maxHeartbeats 16000000 in
theorem refParse (x : TAd) (t : TbC) (q : Wv) (d : WdC) (a : Option Addr) (ws : List TxC) (c : Nat) (many : Bool) (w : World) (ht : TabIs w x t) (hW : WOk w q d t.th.length) (hd : ∀ x, (kidsW d.ch d.nx t.th.length x).Nodup) (hky : KeyOk t) (h2 : 2 ≤ t.th.length)
    (hw : Wds w a ws) (hc : ws.length ≤ c) (hwl : ws.length ≤ 1000) :
    Calls Tryz.prog 13 #[tabV x t, worldV q, .slice a ws.length c, .bool many] w (RetPhO w (parseN (oneW t q d) (visN d t.th.length) (reachV d t.th.length 1) (ws.map keyW) many)) := by
 have hnew := Thr.new x t q w [.slice none 0 0, .int .i64 0, .int .i64 0]
 obtain ⟨W0, hW0⟩ : ∃ W0, ((w.alloc (.cells (tabC x t).toArray 28)).alloc (.cells (worldC q).toArray 31)).alloc (.cells ([.slice none 0 0, .int .i64 0, .int .i64 0] : List Value).toArray 36) = W0 := ⟨_, rfl⟩
 rw [hW0] at hnew
 have HST := Lib.hid hnew
 have HIT := Lib.hid (fun w' (hb : Below w.heap.size w w') => refItem x t q d a ws c w' (ht.below hb) (hW.below hb) hd hky h2 (hw.below hb) hc hwl)
 have HLI := Lib.hid (fun a' ws' c' w' (hb : Below w.heap.size w w') hw' hc' hwl' => refList x t q d a' ws' c' w' (ht.below hb) (hW.below hb) hd hky h2 hw' hc' hwl')
 have HCA := Lib.hid (fun w' (hb : Below w.heap.size w w') => ref23Carried x t q d t.th.length w' (hW.below hb) hd)
 have HVI := Lib.hid (fun w' (hb : Below w.heap.size w w') => ref23Visible x t q d t.th.length w' (hW.below hb) hd)
 have HHAS := Lib.hid (fun s a (l : List TxC) c w' hw hl hs => refHas36 s a l c w' hw hl hs)
 have HISR := Lib.hid (fun y w' => ref20Is q y w' (by rw [hW.len.h1]; exact hW.len.few))
 rw [hW.len.h1] at HISR
 have HUS : Hid (∀ ks, (oneW t q d ks).2.1 ≤ ks.length) := Lib.hid (fun ks => one_used t (seenTo (seesN d t.th.length) t.th.length) (isW t.th.length q.it && seesN d t.th.length q.it) q.it ks)
 have HWD := Lib.hid (fun w' (hb : Below w.heap.size w w') => hw.below hb)
 have HWL := Lib.hid hw.1
 obtain ⟨i0, hi, hi1, hi2, hi3⟩ := info_parts info_intV
 have HLV : (visN d t.th.length).length ≤ 1000 := Nat.le_trans (visN_len hW.nest hW.pos hd) hW.few
 have HLC : (reachV d t.th.length 1).length ≤ 1000 := Nat.le_trans (reach_len hW.nest hW.pos hd _ _ _ _) hW.few
 have HAW : Hid (∀ y ∈ allN (visN d t.th.length) (reachV d t.th.length 1), isW t.th.length y = true) := Lib.hid (left_is (fun y hy => vis_is hy) (fun y hy => reach_is _ _ _ _ _ hy))
 generalize oneW t q d = one at *
 obtain ⟨PH, hPH⟩ : ∃ p, parseN one (visN d t.th.length) (reachV d t.th.length 1) (ws.map keyW) many = p := ⟨_, rfl⟩
 rw [hPH]
 generalize visN d t.th.length = vis at *
 generalize reachV d t.th.length 1 = car at *
 have HPH := Lib.hid hPH
 obtain ⟨m, hm⟩ : ∃ m, ws.length = m := ⟨_, rfl⟩
 have HWM := Lib.hid hm
 clear ht hW hw hnew hPH hd hky
 rw [hm] at hc hwl HIT ⊢
 clear hm
 have HSTt := Lib.hid HST.out.bt
 have HSTw := Lib.hid HST.out.bw
 obtain ⟨kt0, kt1, kt2, kt3, kt4, kt5, kt6, kt7, kt8, kt9, kt10, kt11, kt12, kt13, kt14⟩ := tab15 (HSTt.out)
 obtain ⟨b0, b1, b2, b3, b4, b5, b6, b7, b8, b9, bA, bB, bC⟩ := wd13 (HSTw.out)
 unfold tabV worldV at *
 go_enter Tryz.func13, Tryz.ntmps13
 unfold worldC at HIT HLI HCA HVI HISR hW0 ⊢
 unfold tabC at HIT HLI HCA HVI hW0 ⊢
 cases many with
 | false =>
   have HPQ : Hid (PH = itemN (one (ws.map keyW))) := Lib.hid (by rw [← HPH.out]; rfl)
   clear HPH
   generalize itemN (one (ws.map keyW)) = p1 at *
   obtain ⟨l, us, r⟩ := p1
   have HPF : Hid (PH = ⟨l, us, r⟩) := HPQ
   clear HPQ
   have HLW := HIT
   go_wp2_with fail
   clear hW0
   -- the list is handed on
   refine (HLW.out _ HST.out.bl).mono ?_
   rintro e w7 ⟨pa, pc, rfl, hI, hb7⟩
   dsimp only at hI ⊢
   have HOB : Hid (w.heap.size + 1 + 1 < w.heap.size + 3) := Lib.hid (by omega)
   have HOW : Hid (OwnInts (w.heap.size + 3) w7 (.slice pa l.length pc) l) := Lib.hid (hI.base HST.out.br.lt)
   clear hI
   have HST1 := Lib.hid (HST.out.below hb7)
   clear kt0 kt1 kt2 kt3 kt4 kt5 kt6 kt7 kt8 kt9 kt10 kt11 kt12 kt13 kt14
   clear b0 b1 b2 b3 b4 b5 b6 b7 b8 b9 bA bB bC
   clear HSTt HSTw
   clear HST
   have HST := HST1
   clear HST1
   have HSTt := Lib.hid HST.out.bt
   have HSTw := Lib.hid HST.out.bw
   obtain ⟨kt0, kt1, kt2, kt3, kt4, kt5, kt6, kt7, kt8, kt9, kt10, kt11, kt12, kt13, kt14⟩ := tab15 (HSTt.out)
   obtain ⟨b0, b1, b2, b3, b4, b5, b6, b7, b8, b9, bA, bB, bC⟩ := wd13 (HSTw.out)
   clear hb7
   -- world; address, capacity, list, used (Int), err; HOW: the row from BB on; HOB: BB is behind the result
   have HBR : Hid (BK w7 (w.heap.size + 1 + 1) [.slice none 0 0, .int .i64 0, .int .i64 0] 36) := Lib.hid HST.out.br
   obtain ⟨q0, q1, q2, n0, n1, n2⟩ := bk3 HBR.out
   have hz2 : w.heap.size + 1 + 1 < (w7).heap.size := HBR.out.lt
   go_wp2_with fail
   try clear hwr hwr2
   generalize hWf : World.setCell _ ⟨w.heap.size + 1 + 1, 2, none⟩ _ = Wf
   have HFin : BK Wf (w.heap.size + 1 + 1) [.slice pa (l).length pc, .int .i64 (us : Int), .int .i64 r] 36 := by
    rw [← hWf]
    have := ((HBR.out.set 0 (.slice pa (l).length pc)).set 1 (.int .i64 (us : Int))).set 2 (.int .i64 r)
    simp only [List.set_cons_zero, List.set_cons_succ] at this
    exact this
   have HLF : Below w.heap.size w Wf := by
    rw [← hWf]
    exact bl_s (bl_s (bl_s HST.out.bl _ _) _ _) _ _
   have HOWf : Hid (OwnInts w.heap.size Wf (.slice pa (l).length pc) l) := Lib.hid (by
    rw [← hWf]
    exact (((HOW.out.set HOB.out 0 _).set HOB.out 1 _).set HOB.out 2 _).base (Nat.le_of_lt (Nat.lt_of_le_of_lt (by omega) HOB.out)))
   clear hWf
   have HLFh := Lib.hid HLF
   obtain ⟨-, -, -, v0, v1, v2⟩ := bk3 HFin
   clear HLF
   rw [HPF.out]
   refine bodyPost_ret (v := .agg #[.slice pa (l).length pc, .int .i64 (us : Int), .int .i64 r]) ?_ rfl ⟨pa, pc, (by first | (with_reducible rfl) | (show _ = Ending.returned (.agg #[.slice pa (l).length pc, .int .i64 ((2 + uq : Nat) : Int), .int .i64 r]); rw [Int.natCast_add]; rfl) | rfl), HOWf.out, HLFh.out⟩
   simp [results, Tryz.results13, go_sem, v0, v1, v2]
 | true =>
   have HLW := Lib.hid (fun w' (hb : Below w.heap.size w w') => HLI.out a ws c w' hb (HWD.out w' hb) (by rw [HWM.out]; exact hc) (by rw [HWM.out]; exact hwl))
   rw [HWM.out] at HLW
   by_cases hm0 : m = 0
   · subst hm0
     have HPQ : Hid (PH = listN one (ws.map keyW) (0 + 1) 0 []) := Lib.hid (by
      have h0 : ws = [] := List.length_eq_zero_iff.1 HWM.out
      rw [← HPH.out, h0]; rfl)
     clear HPH
     generalize listN one (ws.map keyW) (0 + 1) 0 [] = p1 at *
     obtain ⟨l, us, r⟩ := p1
     have HPF : Hid (PH = ⟨l, us, r⟩) := HPQ
     clear HPQ
     go_wp2_with fail
     clear hW0
     -- the list is handed on
     refine (HLW.out _ HST.out.bl).mono ?_
     rintro e w7 ⟨pa, pc, rfl, hI, hb7⟩
     dsimp only at hI ⊢
     have HOB : Hid (w.heap.size + 1 + 1 < w.heap.size + 3) := Lib.hid (by omega)
     have HOW : Hid (OwnInts (w.heap.size + 3) w7 (.slice pa l.length pc) l) := Lib.hid (hI.base HST.out.br.lt)
     clear hI
     have HST1 := Lib.hid (HST.out.below hb7)
     clear kt0 kt1 kt2 kt3 kt4 kt5 kt6 kt7 kt8 kt9 kt10 kt11 kt12 kt13 kt14
     clear b0 b1 b2 b3 b4 b5 b6 b7 b8 b9 bA bB bC
     clear HSTt HSTw
     clear HST
     have HST := HST1
     clear HST1
     have HSTt := Lib.hid HST.out.bt
     have HSTw := Lib.hid HST.out.bw
     obtain ⟨kt0, kt1, kt2, kt3, kt4, kt5, kt6, kt7, kt8, kt9, kt10, kt11, kt12, kt13, kt14⟩ := tab15 (HSTt.out)
     obtain ⟨b0, b1, b2, b3, b4, b5, b6, b7, b8, b9, bA, bB, bC⟩ := wd13 (HSTw.out)
     clear hb7
     -- world; address, capacity, list, used (Int), err; HOW: the row from BB on; HOB: BB is behind the result
     have HBR : Hid (BK w7 (w.heap.size + 1 + 1) [.slice none 0 0, .int .i64 0, .int .i64 0] 36) := Lib.hid HST.out.br
     obtain ⟨q0, q1, q2, n0, n1, n2⟩ := bk3 HBR.out
     have hz2 : w.heap.size + 1 + 1 < (w7).heap.size := HBR.out.lt
     go_wp2_with fail
     try clear hwr hwr2
     generalize hWf : World.setCell _ ⟨w.heap.size + 1 + 1, 2, none⟩ _ = Wf
     have HFin : BK Wf (w.heap.size + 1 + 1) [.slice pa (l).length pc, .int .i64 (us : Int), .int .i64 r] 36 := by
      rw [← hWf]
      have := ((HBR.out.set 0 (.slice pa (l).length pc)).set 1 (.int .i64 (us : Int))).set 2 (.int .i64 r)
      simp only [List.set_cons_zero, List.set_cons_succ] at this
      exact this
     have HLF : Below w.heap.size w Wf := by
      rw [← hWf]
      exact bl_s (bl_s (bl_s HST.out.bl _ _) _ _) _ _
     have HOWf : Hid (OwnInts w.heap.size Wf (.slice pa (l).length pc) l) := Lib.hid (by
      rw [← hWf]
      exact (((HOW.out.set HOB.out 0 _).set HOB.out 1 _).set HOB.out 2 _).base (Nat.le_of_lt (Nat.lt_of_le_of_lt (by omega) HOB.out)))
     clear hWf
     have HLFh := Lib.hid HLF
     obtain ⟨-, -, -, v0, v1, v2⟩ := bk3 HFin
     clear HLF
     rw [HPF.out]
     refine bodyPost_ret (v := .agg #[.slice pa (l).length pc, .int .i64 (us : Int), .int .i64 r]) ?_ rfl ⟨pa, pc, (by first | (with_reducible rfl) | (show _ = Ending.returned (.agg #[.slice pa (l).length pc, .int .i64 ((2 + uq : Nat) : Int), .int .i64 r]); rw [Int.natCast_add]; rfl) | rfl), HOWf.out, HLFh.out⟩
     simp [results, Tryz.results13, go_sem, v0, v1, v2]
   · have hm1 : 0 < m := by omega
     have hmne : ((m : Int) == 0) = false := by simp; omega
     have hwu : 0 < ws.length := by rw [HWM.out]; exact hm1
     obtain ⟨b, o, rfl, hb, hcs⟩ := (HWD.out _ HST.out.bl).2 hwu
     have hc0 := hcs 0 hwu
     obtain ⟨s0, hs0⟩ : ∃ s, ws[0] = s := ⟨_, rfl⟩
     rw [hs0] at hc0
     simp only [Nat.add_zero] at hc0
     have HS0 := Lib.hid hs0
     have HL0 : Hid (s0.length ≤ maxLen) := Lib.hid (HWL.out s0 (by rw [← hs0]; exact List.getElem_mem hwu))
     have HSTa := Lib.hid (HST.out.below (bl_a (Below.refl _ _) (.cells #[.string ⟨#[97, 108, 108]⟩, .string ⟨#[101, 118, 101, 114, 121, 116, 104, 105, 110, 103]⟩] 9)))
     have HAM0 := HHAS.out s0 (some ⟨W0.heap.size, 0, none⟩) [[97, 108, 108], [101, 118, 101, 114, 121, 116, 104, 105, 110, 103]] 2 _ (wds_lit W0 [[97, 108, 108], [101, 118, 101, 114, 121, 116, 104, 105, 110, 103]] 9 (by decide)) (by decide) HL0.out
     rw [show List.map keyW [[97, 108, 108], [101, 118, 101, 114, 121, 116, 104, 105, 110, 103]] = allL by decide] at HAM0
     have HKS1 : Hid (m = 1 → ws.map keyW = [keyW s0]) := Lib.hid (fun h => by rw [← HS0.out]; exact one_key (by rw [HWM.out]; exact h))
     have HKS0 : Hid (∃ r, ws.map keyW = keyW s0 :: r) := Lib.hid (by rw [← HS0.out]; exact head_key hwu)
     obtain ⟨ca, hca⟩ : ∃ r, allL.contains (keyW s0) = r := ⟨_, rfl⟩
     rw [hca] at HAM0
     have HAM := Lib.hid HAM0
     have HCA1 := Lib.hid hca
     obtain ⟨k0, hk0⟩ : ∃ k, keyW s0 = k := ⟨_, rfl⟩
     rw [hk0] at HKS1 HKS0 HCA1
     have HK0 := Lib.hid hk0
     clear hca hk0 hcs hs0 HAM0
     clear kt0 kt1 kt2 kt3 kt4 kt5 kt6 kt7 kt8 kt9 kt10 kt11 kt12 kt13 kt14
     clear b0 b1 b2 b3 b4 b5 b6 b7 b8 b9 bA bB bC
     clear HSTt HSTw
     go_wp2_with fail
     clear hW0
     refine HAM.out.mono ?_
     rintro e w3 ⟨rfl, hb3⟩
     have HST3 := Lib.hid (HSTa.out.below hb3)
     clear hb3 HST HSTa HAM hc0
     have HST := HST3
     clear HST3
     have HSTt := Lib.hid HST.out.bt
     have HSTw := Lib.hid HST.out.bw
     obtain ⟨kt0, kt1, kt2, kt3, kt4, kt5, kt6, kt7, kt8, kt9, kt10, kt11, kt12, kt13, kt14⟩ := tab15 (HSTt.out)
     obtain ⟨b0, b1, b2, b3, b4, b5, b6, b7, b8, b9, bA, bB, bC⟩ := wd13 (HSTw.out)
     cases ca with
     | false =>
       have HPQ : Hid (PH = listN one (ws.map keyW) (m + 1) 0 []) := Lib.hid (by
        obtain ⟨r, hr⟩ := HKS0.out
        have hl : (k0 :: r).length = m := by rw [← hr, List.length_map, HWM.out]
        rw [← HPH.out, hr, ← hl]
        simp only [parseN, manyN, if_true, HCA1.out, Bool.false_eq_true, if_false])
       clear HPH
       generalize listN one (ws.map keyW) (m + 1) 0 [] = p1 at *
       obtain ⟨l, us, r⟩ := p1
       have HPF : Hid (PH = ⟨l, us, r⟩) := HPQ
       clear HPQ
       go_wp2_with fail
       -- the list is handed on
       refine (HLW.out _ HST.out.bl).mono ?_
       rintro e w7 ⟨pa, pc, rfl, hI, hb7⟩
       dsimp only at hI ⊢
       have HOB : Hid (w.heap.size + 1 + 1 < w.heap.size + 3) := Lib.hid (by omega)
       have HOW : Hid (OwnInts (w.heap.size + 3) w7 (.slice pa l.length pc) l) := Lib.hid (hI.base HST.out.br.lt)
       clear hI
       have HST1 := Lib.hid (HST.out.below hb7)
       clear kt0 kt1 kt2 kt3 kt4 kt5 kt6 kt7 kt8 kt9 kt10 kt11 kt12 kt13 kt14
       clear b0 b1 b2 b3 b4 b5 b6 b7 b8 b9 bA bB bC
       clear HSTt HSTw
       clear HST
       have HST := HST1
       clear HST1
       have HSTt := Lib.hid HST.out.bt
       have HSTw := Lib.hid HST.out.bw
       obtain ⟨kt0, kt1, kt2, kt3, kt4, kt5, kt6, kt7, kt8, kt9, kt10, kt11, kt12, kt13, kt14⟩ := tab15 (HSTt.out)
       obtain ⟨b0, b1, b2, b3, b4, b5, b6, b7, b8, b9, bA, bB, bC⟩ := wd13 (HSTw.out)
       clear hb7
       -- world; address, capacity, list, used (Int), err; HOW: the row from BB on; HOB: BB is behind the result
       have HBR : Hid (BK w7 (w.heap.size + 1 + 1) [.slice none 0 0, .int .i64 0, .int .i64 0] 36) := Lib.hid HST.out.br
       obtain ⟨q0, q1, q2, n0, n1, n2⟩ := bk3 HBR.out
       have hz2 : w.heap.size + 1 + 1 < (w7).heap.size := HBR.out.lt
       go_wp2_with fail
       try clear hwr hwr2
       generalize hWf : World.setCell _ ⟨w.heap.size + 1 + 1, 2, none⟩ _ = Wf
       have HFin : BK Wf (w.heap.size + 1 + 1) [.slice pa (l).length pc, .int .i64 (us : Int), .int .i64 r] 36 := by
        rw [← hWf]
        have := ((HBR.out.set 0 (.slice pa (l).length pc)).set 1 (.int .i64 (us : Int))).set 2 (.int .i64 r)
        simp only [List.set_cons_zero, List.set_cons_succ] at this
        exact this
       have HLF : Below w.heap.size w Wf := by
        rw [← hWf]
        exact bl_s (bl_s (bl_s HST.out.bl _ _) _ _) _ _
       have HOWf : Hid (OwnInts w.heap.size Wf (.slice pa (l).length pc) l) := Lib.hid (by
        rw [← hWf]
        exact (((HOW.out.set HOB.out 0 _).set HOB.out 1 _).set HOB.out 2 _).base (Nat.le_of_lt (Nat.lt_of_le_of_lt (by omega) HOB.out)))
       clear hWf
       have HLFh := Lib.hid HLF
       obtain ⟨-, -, -, v0, v1, v2⟩ := bk3 HFin
       clear HLF
       rw [HPF.out]
       refine bodyPost_ret (v := .agg #[.slice pa (l).length pc, .int .i64 (us : Int), .int .i64 r]) ?_ rfl ⟨pa, pc, (by first | (with_reducible rfl) | (show _ = Ending.returned (.agg #[.slice pa (l).length pc, .int .i64 ((2 + uq : Nat) : Int), .int .i64 r]); rw [Int.natCast_add]; rfl) | rfl), HOWf.out, HLFh.out⟩
       simp [results, Tryz.results13, go_sem, v0, v1, v2]
     | true =>
       clear HLW HIT
       as_aux_lemma =>
        go_wp2_with fail
        refine (HCA.out _ HST.out.bl).mono ?_
        rintro e w4 ⟨v4, rfl, gA, hbA⟩
        obtain ⟨a4, c4, rfl⟩ := gA.shape
        have HIC4 := Lib.hid (gA.ints (by unfold maxLen; omega))
        clear gA
        have HST1 := Lib.hid (HST.out.below hbA)
        clear kt0 kt1 kt2 kt3 kt4 kt5 kt6 kt7 kt8 kt9 kt10 kt11 kt12 kt13 kt14
        clear b0 b1 b2 b3 b4 b5 b6 b7 b8 b9 bA bB bC
        clear HSTt HSTw
        clear HST
        have HST := HST1
        clear HST1
        have HSTt := Lib.hid HST.out.bt
        have HSTw := Lib.hid HST.out.bw
        obtain ⟨kt0, kt1, kt2, kt3, kt4, kt5, kt6, kt7, kt8, kt9, kt10, kt11, kt12, kt13, kt14⟩ := tab15 (HSTt.out)
        obtain ⟨b0, b1, b2, b3, b4, b5, b6, b7, b8, b9, bA, bB, bC⟩ := wd13 (HSTw.out)
        clear hbA
        go_wp2_with fail
        refine (HVI.out _ HST.out.bl).mono ?_
        rintro e w5 ⟨v5, rfl, gV, hbV⟩
        obtain ⟨a5, c5, rfl⟩ := gV.shape
        have HIV := Lib.hid (gV.ints (by unfold maxLen; omega))
        have HIC := Lib.hid (HIC4.out.below hbV)
        clear gV HIC4
        have HST1 := Lib.hid (HST.out.below hbV)
        clear kt0 kt1 kt2 kt3 kt4 kt5 kt6 kt7 kt8 kt9 kt10 kt11 kt12 kt13 kt14
        clear b0 b1 b2 b3 b4 b5 b6 b7 b8 b9 bA bB bC
        clear HSTt HSTw
        clear HST
        have HST := HST1
        clear HST1
        have HSTt := Lib.hid HST.out.bt
        have HSTw := Lib.hid HST.out.bw
        obtain ⟨kt0, kt1, kt2, kt3, kt4, kt5, kt6, kt7, kt8, kt9, kt10, kt11, kt12, kt13, kt14⟩ := tab15 (HSTt.out)
        obtain ⟨b0, b1, b2, b3, b4, b5, b6, b7, b8, b9, bA, bB, bC⟩ := wd13 (HSTw.out)
        clear hbV
        clear kt0 kt1 kt2 kt3 kt4 kt5 kt6 kt7 kt8 kt9 kt10 kt11 kt12 kt13 kt14
        clear b0 b1 b2 b3 b4 b5 b6 b7 b8 b9 bA bB bC
        clear HSTt HSTw
        obtain ⟨p0, hp0⟩ : ∃ p : Int → Bool, (fun y => !car.contains y) = p := ⟨_, rfl⟩
        have HP0 : Hid (∀ y, p0 y = !car.contains y) := Lib.hid (fun y => by rw [← hp0])
        have HAL : Hid (allN vis car = if vis.filter p0 = [] then car else vis.filter p0) := Lib.hid (by rw [← hp0]; rfl)
        obtain ⟨nv, hnv⟩ : ∃ n, vis.length = n := ⟨_, rfl⟩
        obtain ⟨nc, hnc⟩ : ∃ n, car.length = n := ⟨_, rfl⟩
        have HNV := Lib.hid hnv
        have HNC := Lib.hid hnc
        have HINC0 := Lib.hid (fun y w' (hb : Below w5.heap.size w5 w') => refIn a4 car c4 y w' (HIC.out.below hb))
        rw [hnv] at HIV HLV ⊢
        rw [hnc] at HIC HINC0 HLC ⊢
        clear hnv hnc hp0
        go_wp2_with fail
        go_loopw [11, 12] (fun ov iv wr => ∃ (i j : Nat) (va : Option Addr) (vc : Nat), ov = .slice va j vc ∧ iv = .int .i64 i ∧ i ≤ nv ∧ Hid (((vis.take i).filter p0).length = j) ∧ Hid (OwnInts w5.heap.size wr (.slice va j vc) ((vis.take i).filter p0)) ∧ Hid (Below w5.heap.size w5 wr)) (fun _ iv _ => nv - (intOf iv).toNat)
        case atStart => exact ⟨0, 0, none, 0, rfl, rfl, Nat.zero_le _, Lib.hid rfl, Lib.hid ⟨World.ownsRow_nil _ _ _ _, fun _ => rfl⟩, Lib.hid (Below.refl _ _)⟩
        case round =>
         obtain ⟨i, j, va, vc, rfl, rfl, hil, HPL, HOW, HBL⟩ := hrel
         by_cases hlt : i < nv
         · have hlt2 : (i : Int) < (nv : Int) := by omega
           have hiL : i < vis.length := by rw [HNV.out]; exact hlt
           obtain ⟨bv, ov', ha, hbv, hcv⟩ := HIV.out.at2 (by omega)
           subst ha
           have hci := (HBL.out.cell (p := ⟨bv, ov' + i, none⟩) hbv).trans (hcv i hiL)
           have HF := Lib.hid (filt_take (p := p0) hiL)
           have hj : j ≤ 1000 := by
            have h1 := List.length_filter_le p0 (vis.take i)
            rw [HPL.out, List.length_take] at h1
            omega
           have hzr : w5.heap.size ≤ wr.heap.size := HBL.out.size
           generalize vis[i] = y at *
           have HPY := Lib.hid (HP0.out y)
           have HINC := Lib.hid (HINC0.out y wr HBL.out)
           obtain ⟨cy, hcy⟩ : ∃ r, car.contains y = r := ⟨_, rfl⟩
           rw [hcy] at HINC HPY
           clear hcv hiL hcy
           have HCI := Lib.hid hci
           go_wp2_with fail
           refine HINC.out.mono ?_
           rintro e w6 ⟨rfl, rfl⟩
           cases cy with
           | true =>
             have HE : Hid ((vis.take (i + 1)).filter p0 = (vis.take i).filter p0) := Lib.hid (by rw [HF.out, HPY.out]; simp)
             go_wp2_with fail
             go_roundw
             case rel => exact ⟨i + 1, j, va, vc, rfl, by go_num, by omega, Lib.hid (by rw [HE.out]; exact HPL.out), Lib.hid (by rw [HE.out]; exact HOW.out), HBL⟩
             case measure => simp [intOf]; omega
           | false =>
             have HE : Hid ((vis.take (i + 1)).filter p0 = (vis.take i).filter p0 ++ [y]) := Lib.hid (by rw [HF.out, HPY.out]; simp)
             generalize (vis.take i).filter p0 = pre at *
             have hown : wr.ownsRow w5.heap.size 3 1 (.slice va j vc) j (pre.map (Value.int .i64)) := by have := HOW.out.1; rwa [HPL.out] at this
             have HLO := Lib.hid (ow_lo hown)
             have HWN := Lib.hid (hown.alloc (.cells #[.int .i64 y] 3))
             have HBA := Lib.hid (bl_a HBL.out (.cells #[.int .i64 y] 3))
             clear hown HF
             go_wp2_with (at_builtin; refine wpList_append_own _ rfl _ _ 23 rfl w5.heap.size 3 i0 (.int .i64 0) 1 8 Tryz.underlying23 hi hi1 hi2 hi3 rfl (by decide) _ j (pre.map (Value.int .i64)) rfl HWN.out ⟨wr.heap.size, 0, none⟩ 1 1 [.int .i64 y] rfl rfl (int_newS _ _ _) (ow_one rfl) (by unfold maxLen; omega) (by omega) (by simp; omega) ?_; intro v5 w7 hown3 hgrow3 _; obtain ⟨g3, cap3, rfl⟩ := ownsRow_succ hown3; have HO3 : Hid (OwnInts w5.heap.size w7 (.slice (some ⟨g3, 0, none⟩) (j + 1) cap3) (pre ++ [y])) := Lib.hid ⟨by rw [List.length_append, HPL.out]; simpa using hown3, fun e => by simp at e⟩; have HB5 := Lib.hid (bl_g HBA.out hgrow3 HLO.out); clear hown3 hgrow3)
             go_roundw
             case rel => exact ⟨i + 1, j + 1, _, cap3, rfl, by go_num, by omega, Lib.hid (by rw [HE.out, List.length_append, HPL.out]; rfl), Lib.hid (by rw [HE.out]; exact HO3.out), HB5⟩
             case measure => simp [intOf]; omega
         · have HE : Hid (vis.filter p0 = (vis.take i).filter p0) := Lib.hid (by rw [List.take_of_length_le (by rw [HNV.out]; omega)])
           have hj : j ≤ 1000 := by
            have h1 := List.length_filter_le p0 (vis.take i)
            rw [HPL.out, List.length_take] at h1
            omega
           generalize (vis.take i).filter p0 = O at *
           rw [HE.out] at HAL
           clear HE
           obtain ⟨AL, hAL⟩ : ∃ l, allN vis car = l := ⟨_, rfl⟩
           have HLD : Hid (∀ but, leftN vis car but = AL.filter (fun y => !but.contains y)) := Lib.hid (fun but => by rw [← hAL]; rfl)
           rw [hAL] at HAL HAW
           clear hAL
           have HBW := Lib.hid (bl_then HST.out.bl HBL.out)
           have HST9 := Lib.hid (HST.out.below HBL.out)
           have HIC9 := Lib.hid (HIC.out.below HBL.out)
           go_upto_if 67 with (fail)
           go_cut [11] (fun s11 wx => ∃ (la : Option Addr) (lc : Nat), s11 = .slice la AL.length lc ∧ wx = wr ∧ Hid (Ints wr (.slice la AL.length lc) AL) ∧ Hid (AL.length ≤ 1000))
           case first =>
            by_cases hj0 : j = 0
            · have HA0 : Hid (AL = car) := Lib.hid (by
                have h0 : O = [] := List.length_eq_zero_iff.1 (by rw [HPL.out]; exact hj0)
                rw [HAL.out, if_pos h0])
              subst hj0
              go_wp2_with fail
              go_meet
              case rel =>
               refine ⟨a4, c4, ?_, rfl, ?_, Lib.hid (by rw [HA0.out, HNC.out]; exact HLC)⟩
               · rw [HA0.out, HNC.out]
               · rw [HA0.out, HNC.out]; exact HIC9
            · have HA0 : Hid (AL = O) := Lib.hid (by rw [HAL.out, if_neg (fun e => hj0 (by rw [← HPL.out, e]; rfl))])
              have hj00 : ((j : Int) == 0) = false := by simp; omega
              go_wp2_with fail
              go_meet
              case rel =>
               refine ⟨va, vc, ?_, rfl, ?_, Lib.hid (by rw [HA0.out, HPL.out]; exact hj)⟩
               · rw [HA0.out, HPL.out]
               · have h9 := HOW.out.ints (by rw [HPL.out]; unfold maxLen; omega)
                 rw [HA0.out, HPL.out]; exact Lib.hid h9
           case rest =>
            obtain ⟨la, lc, rfl, rfl, HIL, HAN⟩ := hcut
            obtain ⟨wd, rfl⟩ : ∃ wd, wd = wc := ⟨wc, rfl⟩
            clear HST HIC HINC0 HIV HPL HOW HAL HIC9 HBL HCA HVI HP0
            have HST := HST9
            clear HST9
            obtain ⟨na, hna⟩ : ∃ n, AL.length = n := ⟨_, rfl⟩
            have HNA := Lib.hid hna
            have han := HAN.out
            rw [hna] at HIL han ⊢
            clear hna HAN
            as_aux_lemma =>
             go_upto_region 17 with (fail)
             go_cut [78] (fun s78 wx => ∃ bb : Bool, s78 = .bool bb ∧ Hid (bb = true → 1 < m ∧ ∃ k1, ws.map keyW = k0 :: k1 :: (ws.drop 2).map keyW ∧ butL.contains k1 = true) ∧ Hid (bb = false → m = 1 ∨ ∃ k1, ws.map keyW = k0 :: k1 :: (ws.drop 2).map keyW ∧ butL.contains k1 = false) ∧ Hid (Thr x t q w wx [.slice none 0 0, .int .i64 0, .int .i64 0]) ∧ Hid (Ints wx (.slice la na lc) AL))
             case first =>
              by_cases hm2 : m = 1
              · subst hm2
                go_wp2_with fail
                go_meet
                case rel => exact ⟨false, rfl, Lib.hid (fun h => Bool.noConfusion h), Lib.hid (fun _ => .inl (by trivial)), HST, HIL⟩
              · have hm3 : (1 : Int) < (m : Int) := by omega
                have hwu1 : 1 < ws.length := by rw [HWM.out]; omega
                obtain ⟨b', o', hbe, hb', hcs⟩ := (HWD.out _ HST.out.bl).2 (by rw [HWM.out]; omega)
                simp only [Option.some.injEq, Addr.mk.injEq, and_true] at hbe
                obtain ⟨rfl, rfl⟩ := hbe
                have hc1 := hcs 1 hwu1
                obtain ⟨s1, hs1⟩ : ∃ s, ws[1] = s := ⟨_, rfl⟩
                rw [hs1] at hc1
                have HKS2 : Hid (ws.map keyW = k0 :: keyW s1 :: (ws.drop 2).map keyW) := Lib.hid (by rw [← HK0.out, ← HS0.out, ← hs1]; exact two_keys hwu1)
                have HAM0 := HHAS.out s1 (some ⟨wd.heap.size, 0, none⟩) butL 2 _ (wds_lit wd butL 9 (by decide)) (by decide) (HWL.out s1 (by rw [← hs1]; exact List.getElem_mem hwu1))
                rw [show List.map keyW butL = butL by decide] at HAM0
                obtain ⟨cb, hcb⟩ : ∃ r, butL.contains (keyW s1) = r := ⟨_, rfl⟩
                rw [hcb] at HAM0
                have HAM : Hid (Calls Tryz.prog 23 #[.slice (some ⟨wd.heap.size, 0, none⟩) 2 2, .string ⟨s1.toArray⟩] (wd.alloc (.cells #[.string ⟨#[101, 120, 99, 101, 112, 116]⟩, .string ⟨#[98, 117, 116]⟩] 9)) fun e w'' => e = .returned (.bool cb) ∧ Below (wd.alloc (.cells #[.string ⟨#[101, 120, 99, 101, 112, 116]⟩, .string ⟨#[98, 117, 116]⟩] 9)).heap.size (wd.alloc (.cells #[.string ⟨#[101, 120, 99, 101, 112, 116]⟩, .string ⟨#[98, 117, 116]⟩] 9)) w'') := Lib.hid HAM0
                have HSTa := Lib.hid (HST.out.below (bl_a (Below.refl _ _) (.cells #[.string ⟨#[101, 120, 99, 101, 112, 116]⟩, .string ⟨#[98, 117, 116]⟩] 9)))
                have HILa := Lib.hid (HIL.out.below (bl_a (Below.refl _ _) (.cells #[.string ⟨#[101, 120, 99, 101, 112, 116]⟩, .string ⟨#[98, 117, 116]⟩] 9)))
                have HCB := Lib.hid hcb
                have HM3 : Hid (1 < m) := Lib.hid (by omega)
                clear hcs hs1 hcb HAM0
                go_wp2_with fail
                refine HAM.out.mono ?_
                rintro e w6 ⟨rfl, hb6⟩
                have HST6 := Lib.hid (HSTa.out.below hb6)
                have HIL6 := Lib.hid (HILa.out.below hb6)
                clear hb6 hc1
                go_wp2_with fail
                go_meet
                case rel => exact ⟨cb, rfl, Lib.hid (fun h => ⟨HM3.out, _, HKS2.out, by rw [HCB.out]; exact h⟩), Lib.hid (fun h => .inr ⟨_, HKS2.out, by rw [HCB.out]; exact h⟩), HST6, HIL6⟩
             case rest =>
              obtain ⟨bb, rfl, HBT, HBF, HST6, HIL6⟩ := hcut
              clear HST HIL
              have HST := HST6
              have HIL := HIL6
              clear HST6 HIL6
              go_upto_if 78 with (fail)
              go_cut [13, 14] (fun s13 s14 wx => ∃ (us : Nat) (bl : List Int) (ba : Option Addr) (bc : Nat), s13 = .int .i64 us ∧ s14 = .slice ba bl.length bc ∧ Hid (Ints wx (.slice ba bl.length bc) bl) ∧ Hid (Ints wx (.slice la na lc) AL) ∧ Hid (Thr x t q w wx [.slice none 0 0, .int .i64 0, .int .i64 0]) ∧ Hid (PH = if AL.filter (fun y => !bl.contains y) = [] then ⟨[], us, 11⟩ else ⟨AL.filter (fun y => !bl.contains y), us, 0⟩))
              case first =>
               cases bb with
               | false =>
                 have HPX : Hid (PH = if AL.filter (fun y => !([] : List Int).contains y) = [] then ⟨[], 1, 11⟩ else ⟨AL.filter (fun y => !([] : List Int).contains y), 1, 0⟩) := Lib.hid (by
                  rw [← HLD.out, ← HPH.out]
                  rcases HBF.out rfl with h1 | ⟨k1, hk, hb1⟩
                  · rw [HKS1.out h1]
                    simp only [parseN, manyN, if_true, HCA1.out]
                  · rw [hk]
                    simp only [parseN, manyN, if_true, HCA1.out, hb1, Bool.false_eq_true, if_false])
                 have HIN0 := Lib.hid (ints_nil wc 0 none)
                 go_wp2_with fail
                 go_meet
                 case rel => exact ⟨1, [], none, 0, rfl, rfl, HIN0, HIL, HST, HPX⟩
               | true =>
                 obtain ⟨hm3, k1, hk, hb1⟩ := HBT.out rfl
                 have HLQ0 := Lib.hid (fun w' (hb : Below w.heap.size w w') => HLI.out (if c = 2 then some ⟨b, o, none⟩ else some ⟨b, o + 2, none⟩) (ws.drop 2) (c - 2) w' hb (by
                  by_cases hc2 : c = 2
                  · have h0 : ws.drop 2 = [] := List.drop_eq_nil_of_le (by rw [HWM.out]; omega)
                    rw [h0]; exact wds_nil _ _
                  · rw [if_neg hc2]; exact wds_drop (HWD.out w' hb) 2 b o rfl) (by rw [List.length_drop, HWM.out]; omega) (by rw [List.length_drop, HWM.out]; omega))
                 have hm2i : (2 : Int) ≤ (m : Int) := by omega
                 have hd2 : (ws.drop 2).length = m - 2 := by rw [List.length_drop, HWM.out]
                 rw [hd2] at HLQ0
                 obtain ⟨A2, hA2⟩ : ∃ A2 : Option Addr, (if c = 2 then some (⟨b, o, none⟩ : Addr) else some ⟨b, o + 2, none⟩) = A2 := ⟨_, rfl⟩
                 rw [hA2] at HLQ0
                 have HPP : Hid (PH = if (listN one ((ws.drop 2).map keyW) (m - 2 + 1) 0 []).er = 0 then (if leftN vis car (listN one ((ws.drop 2).map keyW) (m - 2 + 1) 0 []).th = [] then ⟨[], 2 + (listN one ((ws.drop 2).map keyW) (m - 2 + 1) 0 []).us, 11⟩ else ⟨leftN vis car (listN one ((ws.drop 2).map keyW) (m - 2 + 1) 0 []).th, 2 + (listN one ((ws.drop 2).map keyW) (m - 2 + 1) 0 []).us, 0⟩) else ⟨[], 2 + (listN one ((ws.drop 2).map keyW) (m - 2 + 1) 0 []).us, (listN one ((ws.drop 2).map keyW) (m - 2 + 1) 0 []).er⟩) := Lib.hid (by
                  rw [← HPH.out, hk, ← hd2]
                  simp only [parseN, manyN, if_true, HCA1.out, hb1, List.length_map])
                 have HUSB : Hid ((listN one ((ws.drop 2).map keyW) (m - 2 + 1) 0 []).us ≤ 1000) := Lib.hid (Nat.le_trans (list_us HUS.out _ _ _ _ (Nat.zero_le _)) (by rw [List.length_map, List.length_drop, HWM.out]; omega))
                 have HLNB : Hid ((listN one ((ws.drop 2).map keyW) (m - 2 + 1) 0 []).th.length ≤ 1001) := Lib.hid (Nat.le_trans (list_thlen one _ _ _ _) (by rw [List.length_nil]; omega))
                 clear HPH hd2 hk hb1 HBT HBF HKS1
                 generalize listN one ((ws.drop 2).map keyW) (m - 2 + 1) 0 [] = p1' at *
                 obtain ⟨lq, uq, rq⟩ := p1'
                 dsimp only at HPP HUSB HLNB
                 have hus := HUSB.out
                 have HSTt := Lib.hid HST.out.bt
                 have HSTw := Lib.hid HST.out.bw
                 obtain ⟨kt0, kt1, kt2, kt3, kt4, kt5, kt6, kt7, kt8, kt9, kt10, kt11, kt12, kt13, kt14⟩ := tab15 (HSTt.out)
                 obtain ⟨b0, b1, b2, b3, b4, b5, b6, b7, b8, b9, bA, bB, bC⟩ := wd13 (HSTw.out)
                 have hz0 : w.heap.size < wc.heap.size := HSTt.out.lt
                 have hz1 : w.heap.size + 1 < wc.heap.size := HSTw.out.lt
                 obtain ⟨wk, rfl⟩ : ∃ wk, wk = wc := ⟨wc, rfl⟩
                 go_upto_region 18 with (fail)
                 go_cut [15] (fun s15 wx => ∃ (qb : Nat) (qa : Option Addr) (qc : Nat), s15 = .pointer (some ⟨qb, 0, none⟩) ∧ Hid (Below wk.heap.size wk wx) ∧ Hid (BK wx qb [.slice qa lq.length qc, .int .i64 uq, .int .i64 rq] 36) ∧ Hid (Ints wx (.slice qa lq.length qc) lq))
                 case first =>
                  refine region_ways (.rd 0 (.rd 1 (.rd 2 (.rd 3 (.two 4 5 (.one 5 (.one 6 .done)) (.one 4 (.one 6 .done))))))) (fun w' => Below wk.heap.size wk w') (by kernel_rfl) (by kernel_rfl) ((Below.refl _ _).drew) (fun KK hKK => ?_)
                  intro OPS
                  simp only [Ways.see, List.getElem?_cons_zero, List.getElem?_cons_succ]
                  iterate 3
                   (refine' inWays_read ?_ ?_ ?_ ?_
                    rotate_left 2
                    · rfl
                    · (intro w' hS; obtain ⟨hcc, hff⟩ := bcell hS; go_simp; first | done | with_reducible rfl)
                    · (simp only [Act.put, List.setIfInBounds_toArray, List.set_cons_zero, List.set_cons_succ]; with_reducible rfl))
                  refine' inWays_read ?_ ?_ ?_ ?_
                  rotate_left 2
                  · rfl
                  · (intro w' hS; go_simp; first | done | with_reducible rfl | (rw [hA2]; done) | (rw [hA2]; with_reducible rfl) | skip)
                  · (simp only [Act.put, List.setIfInBounds_toArray, List.set_cons_zero, List.set_cons_succ]; with_reducible rfl)
                  refine inWays_two ?_ ?_
                  · refine' inWays_call ?_ ?_ ?_
                    rotate_left 2
                    · rfl
                    · (go_simp; exact ⟨rfl, rfl⟩)
                    refine (HLQ0.out _ (bl_then HST.out.bl (Below.refl _ _).drew)).mono ?_
                    rintro e w6 ⟨qa, qc, rfl, hI6, hb6⟩
                    have HB6 : Hid (Below wk.heap.size wk w6) := Lib.hid (bl_then (Below.refl _ _).drew hb6)
                    dsimp only at hI6 ⊢
                    have HI6 := Lib.hid (hI6.ints (by unfold maxLen; have := HLNB.out; omega))
                    clear hb6 hI6
                    refine ⟨_, rfl, HB6.out, ?_⟩
                    simp only [Act.put, List.setIfInBounds_toArray, List.set_cons_zero, List.set_cons_succ]
                    refine' inWays_val ?_ ?_ ?_ ?_ ?_
                    rotate_left 3
                    · rfl
                    · (go_simp; first | exact ⟨rfl, rfl⟩ | with_reducible rfl)
                    · exact bl_a HB6.out _
                    · (simp only [Act.put, List.setIfInBounds_toArray, List.set_cons_zero, List.set_cons_succ]; with_reducible rfl)
                    have hz36 : wk.heap.size ≤ w6.heap.size := HB6.out.size
                    generalize hWa : World.alloc w6 _ = Wa
                    have HBK : Hid (BK Wa w6.heap.size [.slice none 0 0, .int .i64 0, .int .i64 0] 36) := Lib.hid (by rw [← hWa]; exact BK.new _ _ _)
                    have HBa : Hid (Below wk.heap.size wk Wa) := Lib.hid (by rw [← hWa]; exact bl_a HB6.out _)
                    have HB6a : Hid (Below w6.heap.size w6 Wa) := Lib.hid (by rw [← hWa]; exact bl_a (Below.refl _ _) _)
                    clear hWa
                    have y0 := HBK.out.cell 0
                    have y1 := HBK.out.cell 1
                    have y2 := HBK.out.cell 2
                    have x0 := HBK.out.fr 0
                    have x1 := HBK.out.fr 1
                    have x2 := HBK.out.fr 2
                    simp only [List.getElem?_cons_zero, List.getElem?_cons_succ] at y0 y1 y2
                    have hzb : w6.heap.size < (Wa).heap.size := HBK.out.lt
                    refine' inWays_skip ?_ ?_ ?_ ?_ ?_
                    rotate_left 2
                    · rfl
                    · (go_simp; first | exact ⟨rfl, rfl⟩ | with_reducible rfl)
                    · exact bl_s (bl_s (bl_s HBa.out _ _) _ _) _ _
                    · (simp only [Act.put, List.setIfInBounds_toArray, List.set_cons_zero, List.set_cons_succ]; with_reducible rfl)
                    refine inWays_nil (hKK.out _ _ ?_)
                    have HBz := bl_s (bl_s (bl_s HBa.out 0 (.slice qa lq.length qc) (k := w6.heap.size)) 1 (.int .i64 uq) (k := w6.heap.size)) 2 (.int .i64 rq) (k := w6.heap.size)
                    have HKz : BK ((((Wa).setCell ⟨w6.heap.size, 0, none⟩ (.slice qa lq.length qc)).setCell ⟨w6.heap.size, 1, none⟩ (.int .i64 uq)).setCell ⟨w6.heap.size, 2, none⟩ (.int .i64 rq)) w6.heap.size [.slice qa lq.length qc, .int .i64 uq, .int .i64 rq] 36 := by
                     have := ((HBK.out.set 0 (.slice qa lq.length qc)).set 1 (.int .i64 uq)).set 2 (.int .i64 rq)
                     simp only [List.set_cons_zero, List.set_cons_succ] at this
                     exact this
                    go_wp2_with fail
                    go_meet
                    case' rel =>
                     skip
                    exact ⟨w6.heap.size, qa, qc, rfl, Lib.hid HBz, Lib.hid HKz, Lib.hid (HI6.out.below (bl_s (bl_s (bl_s HB6a.out _ _) _ _) _ _))⟩
                  · refine' inWays_val ?_ ?_ ?_ ?_ ?_
                    rotate_left 3
                    · rfl
                    · (go_simp; first | exact ⟨rfl, rfl⟩ | with_reducible rfl)
                    · exact bl_a ((Below.refl _ _).drew) _
                    · (simp only [Act.put, List.setIfInBounds_toArray, List.set_cons_zero, List.set_cons_succ]; with_reducible rfl)
                    generalize hWa : World.drew (World.alloc wk _) = Wa
                    have HBK0 : Hid (BK Wa wk.heap.size [.slice none 0 0, .int .i64 0, .int .i64 0] 36) := Lib.hid (by rw [← hWa]; exact BK.new wk _ _)
                    have HBa0 : Hid (Below wk.heap.size wk Wa) := Lib.hid (by rw [← hWa]; exact (bl_a (Below.refl _ _) _).drew)
                    clear hWa
                    refine' inWays_call ?_ ?_ ?_
                    rotate_left 2
                    · rfl
                    · (go_simp; exact ⟨rfl, rfl⟩)
                    refine (HLQ0.out _ (bl_then HST.out.bl HBa0.out)).mono ?_
                    rintro e w6 ⟨qa, qc, rfl, hI6, hb6⟩
                    dsimp only at hI6 ⊢
                    have HBa : Hid (Below wk.heap.size wk w6) := Lib.hid (bl_then HBa0.out hb6)
                    have HBK := Lib.hid (HBK0.out.below hb6)
                    have HF6 : Hid (∀ b o, qa = some ⟨b, o, none⟩ → wk.heap.size + 1 ≤ b) := Lib.hid (fun b o e => Nat.le_trans HBK0.out.lt (ow_ge hI6.1 b o e))
                    have HI6 := Lib.hid (hI6.ints (by unfold maxLen; have := HLNB.out; omega))
                    clear hI6 hb6
                    refine ⟨_, rfl, HBa.out, ?_⟩
                    simp only [Act.put, List.setIfInBounds_toArray, List.set_cons_zero, List.set_cons_succ]
                    have y0 := HBK.out.cell 0
                    have y1 := HBK.out.cell 1
                    have y2 := HBK.out.cell 2
                    have x0 := HBK.out.fr 0
                    have x1 := HBK.out.fr 1
                    have x2 := HBK.out.fr 2
                    simp only [List.getElem?_cons_zero, List.getElem?_cons_succ] at y0 y1 y2
                    have hzb : wk.heap.size < (w6).heap.size := HBK.out.lt
                    refine' inWays_skip ?_ ?_ ?_ ?_ ?_
                    rotate_left 2
                    · rfl
                    · (go_simp; first | exact ⟨rfl, rfl⟩ | with_reducible rfl)
                    · exact bl_s (bl_s (bl_s HBa.out _ _) _ _) _ _
                    · (simp only [Act.put, List.setIfInBounds_toArray, List.set_cons_zero, List.set_cons_succ]; with_reducible rfl)
                    refine inWays_nil (hKK.out _ _ ?_)
                    have HBz := bl_s (bl_s (bl_s HBa.out 0 (.slice qa lq.length qc) (k := wk.heap.size)) 1 (.int .i64 uq) (k := wk.heap.size)) 2 (.int .i64 rq) (k := wk.heap.size)
                    have HKz : BK ((((w6).setCell ⟨wk.heap.size, 0, none⟩ (.slice qa lq.length qc)).setCell ⟨wk.heap.size, 1, none⟩ (.int .i64 uq)).setCell ⟨wk.heap.size, 2, none⟩ (.int .i64 rq)) wk.heap.size [.slice qa lq.length qc, .int .i64 uq, .int .i64 rq] 36 := by
                     have := ((HBK.out.set 0 (.slice qa lq.length qc)).set 1 (.int .i64 uq)).set 2 (.int .i64 rq)
                     simp only [List.set_cons_zero, List.set_cons_succ] at this
                     exact this
                    go_wp2_with fail
                    go_meet
                    case' rel =>
                     skip
                    exact ⟨wk.heap.size, qa, qc, rfl, Lib.hid HBz, Lib.hid HKz, Lib.hid (ints_but HI6.out ((((But.refl w6.heap.size _ _).set (List.mem_singleton.2 rfl) _ _).set (List.mem_singleton.2 rfl) _ _).set (List.mem_singleton.2 rfl) _ _) (fun b o e hm => by have := HF6.out b o e; have := List.mem_singleton.1 hm; omega))⟩
                 case rest =>
                  obtain ⟨qb, qa, qc, rfl, HBX, HKQ, HIQ⟩ := hcut
                  have HSTX := Lib.hid (HST.out.below HBX.out)
                  have HILX := Lib.hid (HIL.out.below HBX.out)
                  clear kt0 kt1 kt2 kt3 kt4 kt5 kt6 kt7 kt8 kt9 kt10 kt11 kt12 kt13 kt14
                  clear b0 b1 b2 b3 b4 b5 b6 b7 b8 b9 bA bB bC
                  clear HSTt HSTw
                  clear HST HIL HBX hz0 hz1 HLQ0
                  have HST := HSTX
                  have HIL := HILX
                  clear HSTX HILX
                  have z0 := HKQ.out.cell 0
                  have z1 := HKQ.out.cell 1
                  have z2 := HKQ.out.cell 2
                  simp only [List.getElem?_cons_zero, List.getElem?_cons_succ] at z0 z1 z2
                  have hzq : qb < wc.heap.size := HKQ.out.lt
                  by_cases hrq : rq = 0
                  · subst hrq
                    have HPX : Hid (PH = if AL.filter (fun y => !lq.contains y) = [] then ⟨[], 2 + uq, 11⟩ else ⟨AL.filter (fun y => !lq.contains y), 2 + uq, 0⟩) := Lib.hid (by
                     have := HPP.out
                     rw [HLD.out] at this
                     simpa using this)
                    clear HPP
                    obtain ⟨hwr, hwr2⟩ : IntKind.i64.wrap (2 + (uq : Int)) = 2 + (uq : Int) ∧ wrap64 (2 + (uq : Int)) = 2 + (uq : Int) := ⟨IntWalk.i64_in _ (by omega), IntWalk.wrap64_in _ (by omega)⟩
                    go_upto_region 21 with (fail)
                    refine region_ways (.rd 0 (.rd 1 (.rd 2 (.rd 3 (.rd 4 (.rd 5 (.rd 6 .done))))))) (fun w' => Below wc.heap.size wc w') (by kernel_rfl) (by kernel_rfl) ((Below.refl _ _).drew) (fun KK hKK => ?_)
                    intro OPS
                    simp only [Ways.see, List.getElem?_cons_zero, List.getElem?_cons_succ]
                    iterate 7
                     (refine' inWays_read ?_ ?_ ?_ ?_
                      rotate_left 2
                      · rfl
                      · (intro w' hS; obtain ⟨hcc, hff⟩ := bcell hS; go_simp; first | done | with_reducible rfl)
                      · (simp only [Act.put, List.setIfInBounds_toArray, List.set_cons_zero, List.set_cons_succ]; with_reducible rfl))
                    refine inWays_nil (hKK.out _ _ ?_)
                    clear hwr hwr2
                    have HBD : Hid (Below wc.heap.size wc wc.drew) := Lib.hid (Below.refl wc.heap.size wc).drew
                    go_wp2_with fail
                    go_meet
                    case rel => exact ⟨2 + uq, lq, qa, qc, by rw [Int.natCast_add]; rfl, rfl, Lib.hid (HIQ.out.below HBD.out), Lib.hid (HIL.out.below HBD.out), Lib.hid (HST.out.below HBD.out), HPX⟩
                  · have e3 : (rq == 0) = false := by simp [hrq]
                    have HPF : Hid (PH = ⟨[], 2 + uq, rq⟩) := Lib.hid (by rw [HPP.out, if_neg hrq])
                    have HOW : Hid (OwnInts (w.heap.size + 3) wc (.slice none ([] : List Int).length 0) []) := Lib.hid ⟨World.ownsRow_nil _ _ _ _, fun _ => rfl⟩
                    have HOB : Hid (w.heap.size + 1 + 1 < w.heap.size + 3) := Lib.hid (by omega)
                    clear hrq
                    obtain ⟨hwr, hwr2⟩ : IntKind.i64.wrap (2 + (uq : Int)) = 2 + (uq : Int) ∧ wrap64 (2 + (uq : Int)) = 2 + (uq : Int) := ⟨IntWalk.i64_in _ (by omega), IntWalk.wrap64_in _ (by omega)⟩
                    go_upto_region 20 with (fail)
                    -- world; address, capacity, list, used (Int), err; HOW: the row from BB on; HOB: BB is behind the result
                    have HBR : Hid (BK wc (w.heap.size + 1 + 1) [.slice none 0 0, .int .i64 0, .int .i64 0] 36) := Lib.hid HST.out.br
                    obtain ⟨q0, q1, q2, n0, n1, n2⟩ := bk3 HBR.out
                    have hz2 : w.heap.size + 1 + 1 < (wc).heap.size := HBR.out.lt
                    repeat ((fail_if_success (with_reducible refine post_mark ?_)); go_step)
                    try clear hwr hwr2
                    generalize hWf : World.setCell _ ⟨w.heap.size + 1 + 1, 2, none⟩ _ = Wf
                    have HFin : BK Wf (w.heap.size + 1 + 1) [.slice none (([] : List Int)).length 0, .int .i64 (2 + (uq : Int)), .int .i64 rq] 36 := by
                     rw [← hWf]
                     have := ((HBR.out.set 0 (.slice none (([] : List Int)).length 0)).set 1 (.int .i64 (2 + (uq : Int)))).set 2 (.int .i64 rq)
                     simp only [List.set_cons_zero, List.set_cons_succ] at this
                     exact this
                    have HLF : Below w.heap.size w Wf := by
                     rw [← hWf]
                     exact bl_s (bl_s (bl_s HST.out.bl _ _) _ _) _ _
                    have HOWf : Hid (OwnInts w.heap.size Wf (.slice none (([] : List Int)).length 0) ([] : List Int)) := Lib.hid (by
                     rw [← hWf]
                     exact (((HOW.out.set HOB.out 0 _).set HOB.out 1 _).set HOB.out 2 _).base (Nat.le_of_lt (Nat.lt_of_le_of_lt (by omega) HOB.out)))
                    clear hWf
                    have HLFh := Lib.hid HLF
                    obtain ⟨-, -, -, v0, v1, v2⟩ := bk3 HFin
                    clear HLF
                    rw [HPF.out]
                    refine bodyPost_ret (v := .agg #[.slice none (([] : List Int)).length 0, .int .i64 (2 + (uq : Int)), .int .i64 rq]) ?_ rfl ⟨none, 0, (by first | (with_reducible rfl) | (show _ = Ending.returned (.agg #[.slice none (([] : List Int)).length 0, .int .i64 ((2 + uq : Nat) : Int), .int .i64 rq]); rw [Int.natCast_add]; rfl) | rfl), HOWf.out, HLFh.out⟩
                    simp [results, Tryz.results13, go_sem, v0, v1, v2]
              case rest =>
               obtain ⟨us, bl, ba, bc, rfl, rfl, HIB, HIL9, HST9, HPX⟩ := hcut
               clear HST HIL
               have HST := HST9
               have HIL := HIL9
               clear HST9 HIL9 HBT HBF HLI HPH
               obtain ⟨wk, rfl⟩ : ∃ wk, wk = wc := ⟨wc, rfl⟩
               obtain ⟨p2', hp2⟩ : ∃ p : Int → Bool, (fun y => !bl.contains y) = p := ⟨_, rfl⟩
               have HP2 : Hid (∀ y, p2' y = !bl.contains y) := Lib.hid (fun y => by rw [← hp2])
               rw [hp2] at HPX
               have hbl : bl.length ≤ maxLen := by obtain ⟨_, _, _, h9, _⟩ := HIB.out; exact h9
               have HINB := Lib.hid (fun y w' (hb : Below wk.heap.size wk w') => refIn ba bl bc y w' (HIB.out.below hb))
               obtain ⟨nb, hnb⟩ : ∃ n, bl.length = n := ⟨_, rfl⟩
               rw [hnb] at HINB ⊢
               clear hp2 hnb HIB
               have HZK : Hid (w.heap.size + 1 + 1 < wk.heap.size) := Lib.hid HST.out.br.lt
               go_wp2_with fail
               go_loopw [16, 17] (fun ov iv wr => ∃ (i j : Nat) (va : Option Addr) (vc : Nat), ov = .slice va j vc ∧ iv = .int .i64 i ∧ i ≤ na ∧ Hid (((AL.take i).filter p2').length = j) ∧ Hid (OwnInts wk.heap.size wr (.slice va j vc) ((AL.take i).filter p2')) ∧ Hid (Below wk.heap.size wk wr)) (fun _ iv _ => na - (intOf iv).toNat)
               case atStart => exact ⟨0, 0, none, 0, rfl, rfl, Nat.zero_le _, Lib.hid rfl, Lib.hid ⟨World.ownsRow_nil _ _ _ _, fun _ => rfl⟩, Lib.hid (Below.refl _ _)⟩
               case round =>
                obtain ⟨i, j, va, vc, rfl, rfl, hil, HPL, HOW, HBL⟩ := hrel
                have HSTr := Lib.hid (HST.out.below HBL.out)
                by_cases hlt : i < na
                · have hlt2 : (i : Int) < (na : Int) := by omega
                  have hiL : i < AL.length := by rw [HNA.out]; exact hlt
                  obtain ⟨bv, ov', ha, hbv, hcv⟩ := HIL.out.at2 (by omega)
                  subst ha
                  have hci := (HBL.out.cell (p := ⟨bv, ov' + i, none⟩) hbv).trans (hcv i hiL)
                  have HF := Lib.hid (filt_take (p := p2') hiL)
                  have hj : j ≤ 1000 := by
                   have h1 := List.length_filter_le p2' (AL.take i)
                   rw [HPL.out, List.length_take] at h1
                   omega
                  have hzr : wk.heap.size ≤ wr.heap.size := HBL.out.size
                  have HWY : Hid (isW t.th.length AL[i] = true) := Lib.hid (HAW.out _ (List.getElem_mem hiL))
                  generalize AL[i] = y at *
                  have HPY := Lib.hid (HP2.out y)
                  have HINC := Lib.hid (HINB.out y)
                  have HISY := Lib.hid (HISR.out y)
                  rw [HWY.out] at HISY
                  obtain ⟨cy, hcy⟩ : ∃ r, bl.contains y = r := ⟨_, rfl⟩
                  rw [hcy] at HINC HPY
                  clear hcv hiL hcy
                  have HSTw := Lib.hid HSTr.out.bw
                  obtain ⟨b0, b1, b2, b3, b4, b5, b6, b7, b8, b9, bA, bB, bC⟩ := wd13 (HSTw.out)
                  have hzw : w.heap.size + 1 < wr.heap.size := HSTw.out.lt
                  have hbvr : bv < wr.heap.size := Nat.lt_of_lt_of_le hbv hzr
                  cases cy with
                  | true =>
                    have HE : Hid ((AL.take (i + 1)).filter p2' = (AL.take i).filter p2') := Lib.hid (by rw [HF.out, HPY.out]; simp)
                    go_wp2_with fail
                    refine region_text (fun w' => Below (wr).heap.size (wr) w') (by kernel_rfl) (by kernel_rfl) ((Below.refl _ _).drew) (fun KK hKK => ?_)
                    intro OPS
                    try simp only [List.append]
                    repeat (first
                     | (refine' inText_val ?_ ?_ ?_ ?_
                        rotate_left 2
                        · rfl
                        · (intro w' hS; obtain ⟨hcc, hff⟩ := bcell hS; go_simp; first | with_reducible rfl | skip)
                        · (simp only [Act.put, List.setIfInBounds_toArray, List.set_cons_zero, List.set_cons_succ]; with_reducible rfl))
                     | (refine' inText_skip ?_ ?_ ?_
                        rotate_left 1
                        · rfl
                        · (simp only [Act.put, List.setIfInBounds_toArray, List.set_cons_zero, List.set_cons_succ]; with_reducible rfl))
                     | (refine' inText_call ?_ ?_ ?_ ?_ ?_
                        rotate_left 4
                        · rfl
                        · (intro w' hS; obtain ⟨hcc, hff⟩ := bcell hS; go_simp; exact ⟨rfl, rfl⟩)
                        · (intro w' hS
                           first
                            | ((with_reducible refine (HINC.out w' (bl_then HBL.out hS)).mono ?_); exact fun e w'' h => ⟨h.1, by rw [← h.2]; exact hS⟩)
                            | ((with_reducible refine (HISY.out w').mono ?_); exact fun e w'' h => ⟨h.1, bl_then hS h.2⟩))
                        · (simp only [Act.put, List.setIfInBounds_toArray, List.set_cons_zero, List.set_cons_succ]; with_reducible rfl)))
                    refine inText_nil (hKK.out _ (fun w9 hS => ?_))
                    have HB9 := Lib.hid (bl_then HBL.out hS)
                    have HOW9 := Lib.hid (HOW.out.below hS)
                    clear hS hKK OPS
                    clear b0 b1 b2 b3 b4 b5 b6 b7 b8 b9 bA bB bC
                    go_wp2_with fail
                    go_roundw
                    case rel => exact ⟨i + 1, j, va, vc, rfl, by go_num, by omega, Lib.hid (by rw [HE.out]; exact HPL.out), Lib.hid (by rw [HE.out]; exact HOW9.out), HB9⟩
                    case measure => simp [intOf]; omega
                  | false =>
                    have HE : Hid ((AL.take (i + 1)).filter p2' = (AL.take i).filter p2' ++ [y]) := Lib.hid (by rw [HF.out, HPY.out]; simp)
                    go_wp2_with fail
                    refine region_text (fun w' => Below (wr).heap.size (wr) w') (by kernel_rfl) (by kernel_rfl) ((Below.refl _ _).drew) (fun KK hKK => ?_)
                    intro OPS
                    try simp only [List.append]
                    repeat (first
                     | (refine' inText_val ?_ ?_ ?_ ?_
                        rotate_left 2
                        · rfl
                        · (intro w' hS; obtain ⟨hcc, hff⟩ := bcell hS; go_simp; first | with_reducible rfl | skip)
                        · (simp only [Act.put, List.setIfInBounds_toArray, List.set_cons_zero, List.set_cons_succ]; with_reducible rfl))
                     | (refine' inText_skip ?_ ?_ ?_
                        rotate_left 1
                        · rfl
                        · (simp only [Act.put, List.setIfInBounds_toArray, List.set_cons_zero, List.set_cons_succ]; with_reducible rfl))
                     | (refine' inText_call ?_ ?_ ?_ ?_ ?_
                        rotate_left 4
                        · rfl
                        · (intro w' hS; obtain ⟨hcc, hff⟩ := bcell hS; go_simp; exact ⟨rfl, rfl⟩)
                        · (intro w' hS
                           first
                            | ((with_reducible refine (HINC.out w' (bl_then HBL.out hS)).mono ?_); exact fun e w'' h => ⟨h.1, by rw [← h.2]; exact hS⟩)
                            | ((with_reducible refine (HISY.out w').mono ?_); exact fun e w'' h => ⟨h.1, bl_then hS h.2⟩))
                        · (simp only [Act.put, List.setIfInBounds_toArray, List.set_cons_zero, List.set_cons_succ]; with_reducible rfl)))
                    refine inText_nil (hKK.out _ (fun w9 hS => ?_))
                    have HB9 := Lib.hid (bl_then HBL.out hS)
                    have HOW9 := Lib.hid (HOW.out.below hS)
                    have hci9 := (hS.cell (p := ⟨bv, ov' + i, none⟩) hbvr).trans hci
                    have hzr9 : wk.heap.size ≤ w9.heap.size := HB9.out.size
                    clear hS hKK OPS hci
                    clear b0 b1 b2 b3 b4 b5 b6 b7 b8 b9 bA bB bC
                    generalize (AL.take i).filter p2' = pre at *
                    have hown : w9.ownsRow wk.heap.size 3 1 (.slice va j vc) j (pre.map (Value.int .i64)) := by have := HOW9.out.1; rwa [HPL.out] at this
                    have HLO := Lib.hid (ow_lo hown)
                    have HWN := Lib.hid (hown.alloc (.cells #[.int .i64 y] 3))
                    have HBA := Lib.hid (bl_a HB9.out (.cells #[.int .i64 y] 3))
                    clear hown HF
                    go_wp2_with (at_builtin; refine wpList_append_own _ rfl _ _ 23 rfl wk.heap.size 3 i0 (.int .i64 0) 1 8 Tryz.underlying23 hi hi1 hi2 hi3 rfl (by decide) _ j (pre.map (Value.int .i64)) rfl HWN.out ⟨w9.heap.size, 0, none⟩ 1 1 [.int .i64 y] rfl rfl (int_newS _ _ _) (ow_one rfl) (by unfold maxLen; omega) (by omega) (by simp; omega) ?_; intro v5 w7 hown3 hgrow3 _; obtain ⟨g3, cap3, rfl⟩ := ownsRow_succ hown3; have HO3 : Hid (OwnInts wk.heap.size w7 (.slice (some ⟨g3, 0, none⟩) (j + 1) cap3) (pre ++ [y])) := Lib.hid ⟨by rw [List.length_append, HPL.out]; simpa using hown3, fun e => by simp at e⟩; have HB5 := Lib.hid (bl_g HBA.out hgrow3 HLO.out); clear hown3 hgrow3)
                    go_roundw
                    case rel => exact ⟨i + 1, j + 1, _, cap3, rfl, by go_num, by omega, Lib.hid (by rw [HE.out, List.length_append, HPL.out]; rfl), Lib.hid (by rw [HE.out]; exact HO3.out), HB5⟩
                    case measure => simp [intOf]; omega
                · have HE : Hid (AL.filter p2' = (AL.take i).filter p2') := Lib.hid (by rw [List.take_of_length_le (by rw [HNA.out]; omega)])
                  generalize (AL.take i).filter p2' = O at *
                  have HSTs := HST
                  clear HST
                  have HST := HSTr
                  clear HSTr
                  by_cases hj0 : j = 0
                  · have h0 : O = [] := List.length_eq_zero_iff.1 (by rw [HPL.out]; exact hj0)
                    have HPF : Hid (PH = ⟨[], us, 11⟩) := Lib.hid (by rw [HPX.out, if_pos (by rw [HE.out, h0])])
                    subst hj0
                    have HOWs := HOW
                    clear HOW
                    have HOW : Hid (OwnInts (w.heap.size + 3) wr (.slice none ([] : List Int).length 0) []) := Lib.hid ⟨World.ownsRow_nil _ _ _ _, fun _ => rfl⟩
                    have HOB : Hid (w.heap.size + 1 + 1 < w.heap.size + 3) := Lib.hid (by omega)
                    clear h0
                    -- world; address, capacity, list, used (Int), err; HOW: the row from BB on; HOB: BB is behind the result
                    have HBR : Hid (BK wr (w.heap.size + 1 + 1) [.slice none 0 0, .int .i64 0, .int .i64 0] 36) := Lib.hid HST.out.br
                    obtain ⟨q0, q1, q2, n0, n1, n2⟩ := bk3 HBR.out
                    have hz2 : w.heap.size + 1 + 1 < (wr).heap.size := HBR.out.lt
                    repeat ((fail_if_success (with_reducible refine post_mark ?_)); go_step)
                    try clear hwr hwr2
                    generalize hWf : World.setCell _ ⟨w.heap.size + 1 + 1, 2, none⟩ _ = Wf
                    have HFin : BK Wf (w.heap.size + 1 + 1) [.slice none (([] : List Int)).length 0, .int .i64 (us : Int), .int .i64 11] 36 := by
                     rw [← hWf]
                     have := ((HBR.out.set 0 (.slice none (([] : List Int)).length 0)).set 1 (.int .i64 (us : Int))).set 2 (.int .i64 11)
                     simp only [List.set_cons_zero, List.set_cons_succ] at this
                     exact this
                    have HLF : Below w.heap.size w Wf := by
                     rw [← hWf]
                     exact bl_s (bl_s (bl_s HST.out.bl _ _) _ _) _ _
                    have HOWf : Hid (OwnInts w.heap.size Wf (.slice none (([] : List Int)).length 0) ([] : List Int)) := Lib.hid (by
                     rw [← hWf]
                     exact (((HOW.out.set HOB.out 0 _).set HOB.out 1 _).set HOB.out 2 _).base (Nat.le_of_lt (Nat.lt_of_le_of_lt (by omega) HOB.out)))
                    clear hWf
                    have HLFh := Lib.hid HLF
                    obtain ⟨-, -, -, v0, v1, v2⟩ := bk3 HFin
                    clear HLF
                    rw [HPF.out]
                    refine bodyPost_ret (v := .agg #[.slice none (([] : List Int)).length 0, .int .i64 (us : Int), .int .i64 11]) ?_ rfl ⟨none, 0, (by first | (with_reducible rfl) | (show _ = Ending.returned (.agg #[.slice none (([] : List Int)).length 0, .int .i64 ((2 + uq : Nat) : Int), .int .i64 11]); rw [Int.natCast_add]; rfl) | rfl), HOWf.out, HLFh.out⟩
                    simp [results, Tryz.results13, go_sem, v0, v1, v2]
                  · have HPF : Hid (PH = ⟨O, us, 0⟩) := Lib.hid (by rw [HPX.out, HE.out, if_neg (fun e => hj0 (by rw [← HPL.out, e]; rfl))])
                    have hj00 : ((j : Int) == 0) = false := by simp; omega
                    have HOB := HZK
                    have hjO : j = O.length := HPL.out.symm
                    subst hjO
                    -- world; address, capacity, list, used (Int), err; HOW: the row from BB on; HOB: BB is behind the result
                    have HBR : Hid (BK wr (w.heap.size + 1 + 1) [.slice none 0 0, .int .i64 0, .int .i64 0] 36) := Lib.hid HST.out.br
                    obtain ⟨q0, q1, q2, n0, n1, n2⟩ := bk3 HBR.out
                    have hz2 : w.heap.size + 1 + 1 < (wr).heap.size := HBR.out.lt
                    repeat ((fail_if_success (with_reducible refine post_mark ?_)); go_step)
                    try clear hwr hwr2
                    generalize hWf : World.setCell _ ⟨w.heap.size + 1 + 1, 2, none⟩ _ = Wf
                    have HFin : BK Wf (w.heap.size + 1 + 1) [.slice va (O).length vc, .int .i64 (us : Int), .int .i64 0] 36 := by
                     rw [← hWf]
                     have := ((HBR.out.set 0 (.slice va (O).length vc)).set 1 (.int .i64 (us : Int))).set 2 (.int .i64 0)
                     simp only [List.set_cons_zero, List.set_cons_succ] at this
                     exact this
                    have HLF : Below w.heap.size w Wf := by
                     rw [← hWf]
                     exact bl_s (bl_s (bl_s HST.out.bl _ _) _ _) _ _
                    have HOWf : Hid (OwnInts w.heap.size Wf (.slice va (O).length vc) O) := Lib.hid (by
                     rw [← hWf]
                     exact (((HOW.out.set HOB.out 0 _).set HOB.out 1 _).set HOB.out 2 _).base (Nat.le_of_lt (Nat.lt_of_le_of_lt (by omega) HOB.out)))
                    clear hWf
                    have HLFh := Lib.hid HLF
                    obtain ⟨-, -, -, v0, v1, v2⟩ := bk3 HFin
                    clear HLF
                    rw [HPF.out]
                    refine bodyPost_ret (v := .agg #[.slice va (O).length vc, .int .i64 (us : Int), .int .i64 0]) ?_ rfl ⟨va, vc, (by first | (with_reducible rfl) | (show _ = Ending.returned (.agg #[.slice va (O).length vc, .int .i64 ((2 + uq : Nat) : Int), .int .i64 0]); rw [Int.natCast_add]; rfl) | rfl), HOWf.out, HLFh.out⟩
                    simp [results, Tryz.results13, go_sem, v0, v1, v2]
end Go.Proofs.YtjggklfegcejhaaGreat
