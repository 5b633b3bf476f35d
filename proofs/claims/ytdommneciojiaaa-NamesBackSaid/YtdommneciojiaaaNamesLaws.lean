/- The walks of the laws NamesMake, NamesFind: they answer true. -/
import Derived.Test.YtdommneciojiaaaNamesAwake
import Derived.Test.YtdommneciojiaaaNamesPlain2
namespace Go.Proofs.Ytdommneciojiaaa
open Go.RowKit Go.PlainAid
set_option linter.unusedVariables false
set_option linter.unusedSimpArgs false

theorem hm_below {w w' : World} {m : Int} (h : w.cell? ⟨0, 0, none⟩ = some (.int .i64 m)) (hb : Below w.heap.size w w') : w'.cell? ⟨0, 0, none⟩ = some (.int .i64 m) := by
  rw [hb.cell (p := ⟨_, 0, none⟩) (lt_cell h)]; exact h
def declC (f p g o v fn dm : Value) : List Value := [f, p, g, o, v, fn, dm]
theorem few_cnt {d : DC} (h : cntD d ≤ 400) : d.few 400 := by
  unfold cntD at h
  exact ⟨by omega, by omega, by omega, by omega, by omega, by omega, by omega⟩
theorem few_up {d : DC} (h : d.few 400) : d.few 100000 := ⟨by have := h.fl; omega, by have := h.pr; omega, by have := h.gl; omega, by have := h.ob; omega, by have := h.ve; omega, by have := h.fu; omega, by have := h.da; omega⟩
theorem names_len {d : DC} : (namesR (runN okN (entsD d) fourN)).length ≤ cntD d + 4 := by
  cases h : runN okN (entsD d) fourN with
  | inl f => exact Nat.zero_le _
  | inr l =>
    show (sortN l).length ≤ _
    rw [(sort_perm l).length_eq, run_len okN _ _ _ h, ents_cnt]
    show 4 + _ ≤ _
    omega
set_option maxRecDepth 100000 in
set_option maxHeartbeats 4000000 in
theorem lawCount (f p g o v fn dm : Value) (d : DC) (w : World) (hs : DeclIs w f p g o v fn dm d) (hd : cntD d ≤ 9000000000000000) :
    Calls Try.prog 8 #[declV f p g o v fn dm] w fun e w' => e = .returned (.int .i64 (cntD d)) ∧ Below w.heap.size w w' := by
  obtain ⟨a1, c1, h1, g1, m1⟩ := hs.fl.len
  obtain ⟨a2, c2, h2, g2, m2⟩ := hs.pr.len
  obtain ⟨a3, c3, h3, g3, m3⟩ := hs.gl.len
  obtain ⟨a4, c4, h4, g4, m4⟩ := hs.ob.len
  obtain ⟨a5, c5, h5, g5, m5⟩ := hs.ve.len
  obtain ⟨a6, c6, h6, g6, m6⟩ := hs.fu.len
  obtain ⟨a7, c7, h7, g7, m7⟩ := hs.da.len
  subst h1 h2 h3 h4 h5 h6 h7
  have HS := Lib.hid hs
  clear hs g1 g2 g3 g4 g5 g6 g7 m1 m2 m3 m4 m5 m6 m7
  unfold cntD at hd ⊢
  unfold declV
  generalize d.fl.length = n1 at hd ⊢
  generalize d.pr.length = n2 at hd ⊢
  generalize d.gl.length = n3 at hd ⊢
  generalize d.ob.length = n4 at hd ⊢
  generalize d.ve.length = n5 at hd ⊢
  generalize d.fu.length = n6 at hd ⊢
  generalize d.da.length = n7 at hd ⊢
  have s1 : IntKind.i64.wrap ((n1 : Int) + n2) = (n1 : Int) + n2 := IntWalk.i64_in _ (by omega)
  have s2 : IntKind.i64.wrap ((n1 : Int) + n2 + n3) = (n1 : Int) + n2 + n3 := IntWalk.i64_in _ (by omega)
  have s3 : IntKind.i64.wrap ((n1 : Int) + n2 + n3 + n4) = (n1 : Int) + n2 + n3 + n4 := IntWalk.i64_in _ (by omega)
  have s4 : IntKind.i64.wrap ((n1 : Int) + n2 + n3 + n4 + n5) = (n1 : Int) + n2 + n3 + n4 + n5 := IntWalk.i64_in _ (by omega)
  have s5 : IntKind.i64.wrap ((n1 : Int) + n2 + n3 + n4 + n5 + n6) = (n1 : Int) + n2 + n3 + n4 + n5 + n6 := IntWalk.i64_in _ (by omega)
  have s6 : IntKind.i64.wrap ((n1 : Int) + n2 + n3 + n4 + n5 + n6 + n7) = (n1 : Int) + n2 + n3 + n4 + n5 + n6 + n7 := IntWalk.i64_in _ (by omega)
  go_enter Try.func8, Try.ntmps8
  go_wp2
  go_ret
  exact ⟨by first | rfl | (congr 1; omega) | (simp), bl_a (Below.refl _ _) _⟩
set_option maxRecDepth 100000 in
set_option maxHeartbeats 8000000 in
theorem walkMake (f p g o v fn dm : Value) (d : DC) (m : Int) (w : World) (hs : DeclIs w f p g o v fn dm d) (hd : cntD d ≤ 9000000000000000) (hm : w.cell? ⟨0, 0, none⟩ = some (.int .i64 m)) :
    Calls Try.prog 3 #[declV f p g o v fn dm] w fun e w' => e = .returned (.bool true) ∧ Below w.heap.size w w' := by
  obtain ⟨a1, c1, h1, g1, m1⟩ := hs.fl.len
  obtain ⟨a2, c2, h2, g2, m2⟩ := hs.pr.len
  obtain ⟨a3, c3, h3, g3, m3⟩ := hs.gl.len
  obtain ⟨a4, c4, h4, g4, m4⟩ := hs.ob.len
  obtain ⟨a5, c5, h5, g5, m5⟩ := hs.ve.len
  obtain ⟨a6, c6, h6, g6, m6⟩ := hs.fu.len
  obtain ⟨a7, c7, h7, g7, m7⟩ := hs.da.len
  subst h1 h2 h3 h4 h5 h6 h7
  have HS := Lib.hid hs
  clear hs g1 g2 g3 g4 g5 g6 g7 m1 m2 m3 m4 m5 m6 m7
  have HM := Lib.hid hm
  clear hm
  unfold declV
  go_enter Try.func3, Try.ntmps3
  obtain ⟨W0, hW0⟩ : ∃ W0, w.alloc (.cells (declC (.slice a1 d.fl.length c1) (.slice a2 d.pr.length c2) (.slice a3 d.gl.length c3) (.slice a4 d.ob.length c4) (.slice a5 d.ve.length c5) (.slice a6 d.fu.length c6) (.slice a7 d.da.length c7)).toArray 24) = W0 := ⟨_, rfl⟩
  have hk0 := BK.new w (declC (.slice a1 d.fl.length c1) (.slice a2 d.pr.length c2) (.slice a3 d.gl.length c3) (.slice a4 d.ob.length c4) (.slice a5 d.ve.length c5) (.slice a6 d.fu.length c6) (.slice a7 d.da.length c7)) 24
  have hb0 := bl_a (Below.refl w.heap.size w) (.cells (declC (.slice a1 d.fl.length c1) (.slice a2 d.pr.length c2) (.slice a3 d.gl.length c3) (.slice a4 d.ob.length c4) (.slice a5 d.ve.length c5) (.slice a6 d.fu.length c6) (.slice a7 d.da.length c7)).toArray 24)
  have hW0' := hW0
  unfold declC at hW0'
  rw [hW0] at hk0 hb0
  have HK0 := Lib.hid hk0
  have HB0 := Lib.hid hb0
  clear hW0 hk0 hb0
  have kd0 := HK0.out.cell 0
  have kd1 := HK0.out.cell 1
  have kd2 := HK0.out.cell 2
  have kd3 := HK0.out.cell 3
  have kd4 := HK0.out.cell 4
  have kd5 := HK0.out.cell 5
  have kd6 := HK0.out.cell 6
  simp only [declC, List.getElem?_cons_zero, List.getElem?_cons_succ] at kd0 kd1 kd2 kd3 kd4 kd5 kd6
  go_wp2_with fail
  clear hW0' kd0 kd1 kd2 kd3 kd4 kd5 kd6
  refine (lawCount _ _ _ _ _ _ _ d W0 (HS.out.below HB0.out) hd).mono ?_
  rintro e w1 ⟨rfl, hb1⟩
  have HB1 := Lib.hid (bl_then HB0.out hb1)
  have HK1 := Lib.hid (HK0.out.below hb1)
  clear hb1 HB0 HK0
  by_cases hc : 400 < cntD d
  · go_wp2_with (go_at_call 9; refine (awake15 m _ (hm_below HM.out HB1.out)).mono ?_; rintro e w2 ⟨rfl, hb2⟩)
    go_ret
    exact ⟨rfl, bl_then HB1.out hb2⟩
  · have HF := Lib.hid (few_cnt (d := d) (by omega))
    have kd0 := HK1.out.cell 0
    have kd1 := HK1.out.cell 1
    have kd2 := HK1.out.cell 2
    have kd3 := HK1.out.cell 3
    have kd4 := HK1.out.cell 4
    have kd5 := HK1.out.cell 5
    have kd6 := HK1.out.cell 6
    simp only [declC, List.getElem?_cons_zero, List.getElem?_cons_succ] at kd0 kd1 kd2 kd3 kd4 kd5 kd6
    go_wp2_with fail
    refine (lawSource _ _ _ _ _ _ _ d _ (HS.out.below HB1.out) (few_up HF.out)).mono ?_
    rintro e w2 ⟨f', p', g', o', v', fn', dm', rfl, hsrc, hb2⟩
    have HB2 := Lib.hid (bl_then HB1.out hb2)
    have HK2 := Lib.hid (HK1.out.below hb2)
    have HSRC := Lib.hid hsrc
    clear hb2 hsrc kd0 kd1 kd2 kd3 kd4 kd5 kd6
    go_wp2_with fail
    refine (namesMake _ _ _ _ _ _ _ d m _ HSRC.out HF.out (hm_below HM.out HB2.out)).mono ?_
    rintro e w3 ⟨v1, rfl, hb3, hr1⟩
    rw [faultR_eq]
    have HB3 := Lib.hid (bl_then HB2.out hb3)
    have HK3 := Lib.hid (HK2.out.below hb3)
    have HR1 := Lib.hid hr1
    clear hb3 hr1 HSRC
    have kd0 := fun o : Obj => (HK3.out.alloc o).cell 0
    have kd1 := fun o : Obj => (HK3.out.alloc o).cell 1
    have kd2 := fun o : Obj => (HK3.out.alloc o).cell 2
    have kd3 := fun o : Obj => (HK3.out.alloc o).cell 3
    have kd4 := fun o : Obj => (HK3.out.alloc o).cell 4
    have kd5 := fun o : Obj => (HK3.out.alloc o).cell 5
    have kd6 := fun o : Obj => (HK3.out.alloc o).cell 6
    simp only [declC, List.getElem?_cons_zero, List.getElem?_cons_succ] at kd0 kd1 kd2 kd3 kd4 kd5 kd6
    go_wp2_with fail
    generalize hW4 : w3.alloc _ = W4
    have hb4 : Below w3.heap.size w3 W4 := by rw [← hW4]; exact bl_a (Below.refl _ _) _
    have hkf : BK W4 w3.heap.size [.int .i64 (fE (runN okN (entsD d) fourN)), .int .i64 (fP (runN okN (entsD d) fourN)), .int .i64 (fN (runN okN (entsD d) fourN)), .string (fS (runN okN (entsD d) fourN))] 30 := by rw [← hW4]; exact BK.new w3 _ _
    have HB4 := Lib.hid (bl_then HB3.out hb4)
    have HK4 := Lib.hid (HK3.out.below hb4)
    have HR4 := Lib.hid (HR1.out.below hb4)
    have HF4 := Lib.hid hkf
    clear hW4 hb4 hkf kd0 kd1 kd2 kd3 kd4 kd5 kd6 HB3 HK3 HR1
    refine (lawSource _ _ _ _ _ _ _ d _ (HS.out.below HB4.out) (few_up HF.out)).mono ?_
    rintro e w5 ⟨f', p', g', o', v', fn', dm', rfl, hsrc, hb5⟩
    have HB5 := Lib.hid (bl_then HB4.out hb5)
    have HR5 := Lib.hid (HR4.out.below hb5)
    have HF5 := Lib.hid (HF4.out.below hb5)
    have HSRC := Lib.hid hsrc
    clear hb5 hsrc HB4 HK4 HR4 HF4
    go_wp2_with fail
    refine (refMake _ _ _ _ _ _ _ d _ HSRC.out HF.out).mono ?_
    rintro e w6 ⟨v2, rfl, hb6, hr6⟩
    rw [faultR_eq]
    have HB6 := Lib.hid (bl_then HB5.out hb6)
    have HR6 := Lib.hid (HR5.out.below hb6)
    have HF6 := Lib.hid (HF5.out.below hb6)
    have HQ6 := Lib.hid hr6
    clear hb6 hr6 HSRC HB5 HR5 HF5
    go_wp2_with fail
    have hnl := names_len (d := d)
    generalize runN okN (entsD d) fourN = R at HR6 HF6 HQ6 hnl ⊢
    generalize hW7 : w6.alloc _ = W7
    have hb7 : Below w6.heap.size w6 W7 := by rw [← hW7]; exact bl_a (Below.refl _ _) _
    have hkf : BK W7 w6.heap.size [.int .i64 (fE R), .int .i64 (fP R), .int .i64 (fN R), .string (fS R)] 30 := by rw [← hW7]; exact BK.new w6 _ _
    refine (same15 _ _ _ W7 (HR6.out.below hb7) (HQ6.out.below hb7) (by omega)).mono ?_
    rintro e w8 ⟨rfl, hb8⟩
    have HB8 := Lib.hid (bl_then (bl_then HB6.out hb7) hb8)
    have HF8 := Lib.hid ((HF6.out.below hb7).below hb8)
    have HG8 := Lib.hid (hkf.below hb8)
    have f0 := HF8.out.cell 0
    have f1 := HF8.out.cell 1
    have f2 := HF8.out.cell 2
    have f3 := HF8.out.cell 3
    have g0 := HG8.out.cell 0
    have g1 := HG8.out.cell 1
    have g2 := HG8.out.cell 2
    have g3 := HG8.out.cell 3
    simp only [List.getElem?_cons_zero, List.getElem?_cons_succ] at f0 f1 f2 f3 g0 g1 g2 g3
    generalize fE R = x1 at f0 g0 ⊢
    generalize fP R = x2 at f1 g1 ⊢
    generalize fN R = x3 at f2 g2 ⊢
    generalize fS R = x4 at f3 g3 ⊢
    clear hW7 hb7 hkf hb8 HB6 HR6 HF6 HQ6 HF8 HG8 hnl
    go_wp2_with (go_at_call 9; refine (awake15 m _ (hm_below HM.out HB8.out)).mono ?_; rintro e w9 ⟨rfl, hb9⟩)
    go_ret
    exact ⟨rfl, bl_then HB8.out hb9⟩

set_option maxRecDepth 100000 in
set_option maxHeartbeats 8000000 in
theorem walkFindL (v : Value) (l : List NM) (n : List UInt8) (k nu m : Int) (w : World) (hv : Reads Cd.nm.seq w v l) (hm : w.cell? ⟨0, 0, none⟩ = some (.int .i64 m)) :
    Calls Try.prog 6 #[v, .string ⟨n.toArray⟩, .int .i64 k, .int .i64 nu] w fun e w' => e = .returned (.bool true) ∧ Below w.heap.size w w' := by
  have HV := Lib.hid hv
  have HM := Lib.hid hm
  obtain ⟨a0, c0, hv0, hc0, hm0⟩ := hv.len
  subst hv0
  unfold maxLen at hm0
  clear hv hm
  by_cases hl : 300 < l.length
  · go_enter Try.func6, Try.ntmps6
    go_wp2_with (go_at_call 9; refine (awake15 m _ HM.out).mono ?_; rintro e w2 ⟨rfl, hb2⟩)
    go_ret
    exact ⟨rfl, hb2⟩
  · go_enter Try.func6, Try.ntmps6
    go_wp2_with fail
    refine (refRises _ l w HV.out (by omega)).mono ?_
    rintro e w1 ⟨b, rfl, hR, hb1⟩
    have HB1 := Lib.hid hb1
    have HR := Lib.hid hR
    clear hb1 hR
    cases b with
    | false =>
      go_wp2_with (go_at_call 9; refine (awake15 m _ (hm_below HM.out HB1.out)).mono ?_; rintro e w2 ⟨rfl, hb2⟩)
      go_ret
      exact ⟨rfl, bl_then HB1.out hb2⟩
    | true =>
      have HRI := Lib.hid (HR.out rfl)
      have HV1 := Lib.hid (HV.out.below HB1.out)
      obtain ⟨x, hx⟩ : ∃ x, (findN l n).getD zeroNM = x := ⟨_, rfl⟩
      obtain ⟨bb, hbb⟩ : ∃ x, (findN l n).isSome = x := ⟨_, rfl⟩
      obtain ⟨q1, hq1⟩ : ∃ x, (ofN l k n).1 = x := ⟨_, rfl⟩
      obtain ⟨q2, hq2⟩ : ∃ x, (ofN l k n).2 = x := ⟨_, rfl⟩
      obtain ⟨tx, htx⟩ : ∃ x : ByteArray, ⟨(textN l k nu).toArray⟩ = x := ⟨_, rfl⟩
      have HF1 := Lib.hid (fun w hr => namesFind (.slice a0 l.length c0) l n w hr HRI.out (by omega))
      have HF2 := Lib.hid (fun w hr => refFind (.slice a0 l.length c0) l n w hr (by omega))
      have HO1 := Lib.hid (fun w hr => namesOf (.slice a0 l.length c0) l k n w hr HRI.out (by omega))
      have HO2 := Lib.hid (fun w hr => refOf (.slice a0 l.length c0) l k n w hr (by omega))
      have HT1 := Lib.hid (fun w hr => namesText (.slice a0 l.length c0) l k nu w hr (by omega))
      have HT2 := Lib.hid (fun w hr => refText (.slice a0 l.length c0) l k nu w hr (by omega))
      rw [hx, hbb] at HF1 HF2
      rw [hq1, hq2] at HO1 HO2
      rw [htx] at HT1 HT2
      rw [show nmV x = .agg #[.string ⟨x.nm.toArray⟩, .int .i64 x.kd, .int .i64 x.nu] from rfl] at HF1 HF2
      generalize (⟨x.nm.toArray⟩ : ByteArray) = x1 at HF1 HF2
      generalize x.kd = x2 at HF1 HF2
      generalize x.nu = x3 at HF1 HF2
      clear hx hbb hq1 hq2 htx HR
      go_wp2_with fail
      refine (HF1.out _ HV1.out).mono ?_
      rintro e w2 ⟨rfl, hb2⟩
      have HB2 := Lib.hid (bl_then HB1.out hb2)
      clear hb2
      go_wp2_with fail
      generalize hW3 : w2.alloc _ = W3
      have hb3 : Below w2.heap.size w2 W3 := by rw [← hW3]; exact bl_a (Below.refl _ _) _
      have hk3 : BK W3 w2.heap.size [.string x1, .int .i64 x2, .int .i64 x3] 46 := by rw [← hW3]; exact BK.new w2 _ _
      have HB3 := Lib.hid (bl_then HB2.out hb3)
      have HK3 := Lib.hid hk3
      clear hW3 hb3 hk3
      refine (HF2.out _ (HV.out.below HB3.out)).mono ?_
      rintro e w4 ⟨rfl, hb4⟩
      have HB4 := Lib.hid (bl_then HB3.out hb4)
      have HK4 := Lib.hid (HK3.out.below hb4)
      clear hb4
      go_wp2_with fail
      generalize hW5 : w4.alloc _ = W5
      have hb5 : Below w4.heap.size w4 W5 := by rw [← hW5]; exact bl_a (Below.refl _ _) _
      have hk5 : BK W5 w4.heap.size [.string x1, .int .i64 x2, .int .i64 x3] 46 := by rw [← hW5]; exact BK.new w4 _ _
      have HB5 := Lib.hid (bl_then HB4.out hb5)
      have HK5 := Lib.hid (HK4.out.below hb5)
      have HJ5 := Lib.hid hk5
      clear hW5 hb5 hk5
      refine (HO1.out _ (HV.out.below HB5.out)).mono ?_
      rintro e w6 ⟨rfl, hb6⟩
      have HB6 := Lib.hid (bl_then HB5.out hb6)
      have HK6 := Lib.hid (HK5.out.below hb6)
      have HJ6 := Lib.hid (HJ5.out.below hb6)
      clear hb6
      go_wp2_with fail
      refine (HO2.out _ (HV.out.below HB6.out)).mono ?_
      rintro e w7 ⟨rfl, hb7⟩
      have HB7 := Lib.hid (bl_then HB6.out hb7)
      have HK7 := Lib.hid (HK6.out.below hb7)
      have HJ7 := Lib.hid (HJ6.out.below hb7)
      have f0 := HK7.out.cell 0
      have f1 := HK7.out.cell 1
      have f2 := HK7.out.cell 2
      have g0 := HJ7.out.cell 0
      have g1 := HJ7.out.cell 1
      have g2 := HJ7.out.cell 2
      simp only [List.getElem?_cons_zero, List.getElem?_cons_succ] at f0 f1 f2 g0 g1 g2
      clear hb7 HB2 HB3 HB4 HB5 HB6 HK3 HK4 HK5 HK6 HJ5 HJ6 HF1 HF2 HO1 HO2
      go_wp2_with (first
        | (go_at_call 20; refine (HT1.out _ (HV.out.below HB7.out)).mono ?_; rintro e w8 ⟨rfl, hb8⟩; have HB8 := Lib.hid (bl_then HB7.out hb8); clear hb8)
        | (go_at_call 21; refine (HT2.out _ (HV.out.below HB8.out)).mono ?_; rintro e w9 ⟨rfl, rfl⟩)
        | (go_at_call 9; refine (awake15 m _ (hm_below HM.out HB8.out)).mono ?_; rintro e w10 ⟨rfl, hb10⟩))
      go_ret
      exact ⟨rfl, bl_then HB8.out hb10⟩
theorem walkFind (v : Value) (l : List NM) (s : ByteArray) (k nu m : Int) (w : World) (hv : Reads Cd.nm.seq w v l) (hm : w.cell? ⟨0, 0, none⟩ = some (.int .i64 m)) :
    Calls Try.prog 6 #[v, .string s, .int .i64 k, .int .i64 nu] w fun e w' => e = .returned (.bool true) ∧ Below w.heap.size w w' := by
  have := walkFindL v l s.data.toList k nu m w hv hm
  simpa using this
end Go.Proofs.Ytdommneciojiaaa
