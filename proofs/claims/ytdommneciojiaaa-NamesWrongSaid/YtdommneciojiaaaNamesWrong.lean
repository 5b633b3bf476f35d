/- The walk of the law NamesWrong: it answers true. -/
import Derived.Test.YtdommneciojiaaaNamesAhead
import Derived.BigQuiet
import Derived.Deep.QuietTactic
namespace Go.Proofs.Ytdommneciojiaaa
open Go.RowKit Go.PlainAid
set_option linter.unusedVariables false
set_option linter.unusedSimpArgs false

theorem aheadL_le {d : DC} (hd : cntD d ≤ 9000000000000000) (part : Int) : (aheadL d part).length ≤ 9000000000000000 := by
  unfold cntD at hd
  unfold aheadL
  split
  · omega
  split
  · omega
  split
  · omega
  split
  · omega
  split
  · omega
  split
  · omega
  split
  · omega
  · exact Nat.zero_le _
theorem few_ahead {d : DC} {n : Nat} (h : d.few n) (part : Int) (k : Nat) : (aheadD d part k).few n := by
  obtain ⟨h1, h2, h3, h4, h5, h6, h7⟩ := h
  have ht : ∀ l : List (List UInt8), l.length ≤ n → (l.take k).length ≤ n := fun l hl => by rw [List.length_take]; omega
  have h0 : ([] : List (List UInt8)).length ≤ n := Nat.zero_le _
  unfold aheadD
  split
  · exact ⟨ht _ h1, h0, h0, h0, h0, h0, h0⟩
  split
  · exact ⟨h1, ht _ h2, h0, h0, h0, h0, h0⟩
  split
  · exact ⟨h1, h2, ht _ h3, h0, h0, h0, h0⟩
  split
  · exact ⟨h1, h2, h3, ht _ h4, h0, h0, h0⟩
  split
  · exact ⟨h1, h2, h3, h4, ht _ h5, h0, h0⟩
  split
  · exact ⟨h1, h2, h3, h4, h5, ht _ h6, h0⟩
  split
  · exact ⟨h1, h2, h3, h4, h5, h6, ht _ h7⟩
  · exact ⟨h1, h2, h3, h4, h5, h6, h7⟩
set_option maxRecDepth 100000 in
set_option maxHeartbeats 8000000 in
theorem walkWrong (f p g o v fn dm : Value) (d : DC) (m : Int) (w : World) (hs : DeclIs w f p g o v fn dm d) (hd : cntD d ≤ 9000000000000000) (hm : w.cell? ⟨0, 0, none⟩ = some (.int .i64 m)) :
    Calls Try.prog 4 #[declV f p g o v fn dm] w fun e w' => e = .returned (.bool true) ∧ Below w.heap.size w w' := by
  obtain ⟨a1, c1, h1, g1, m1⟩ := hs.fl.len
  obtain ⟨a2, c2, h2, g2, m2⟩ := hs.pr.len
  obtain ⟨a3, c3, h3, g3, m3⟩ := hs.gl.len
  obtain ⟨a4, c4, h4, g4, m4⟩ := hs.ob.len
  obtain ⟨a5, c5, h5, g5, m5⟩ := hs.ve.len
  obtain ⟨a6, c6, h6, g6, m6⟩ := hs.fu.len
  obtain ⟨a7, c7, h7, g7, m7⟩ := hs.da.len
  subst h1 h2 h3 h4 h5 h6 h7
  have HS := Lib.hid hs
  clear hs g1 g2 g3 g4 g5 g6 g7 m1 m2 m3 m4 m5 m6 m7
  have HM := Lib.hid hm
  clear hm
  unfold declV
  go_enter Try.func4, Try.ntmps4
  obtain ⟨W0, hW0⟩ : ∃ W0, w.alloc (.cells (declC (.slice a1 d.fl.length c1) (.slice a2 d.pr.length c2) (.slice a3 d.gl.length c3) (.slice a4 d.ob.length c4) (.slice a5 d.ve.length c5) (.slice a6 d.fu.length c6) (.slice a7 d.da.length c7)).toArray 24) = W0 := ⟨_, rfl⟩
  have hk0 := BK.new w (declC (.slice a1 d.fl.length c1) (.slice a2 d.pr.length c2) (.slice a3 d.gl.length c3) (.slice a4 d.ob.length c4) (.slice a5 d.ve.length c5) (.slice a6 d.fu.length c6) (.slice a7 d.da.length c7)) 24
  have hb0 := bl_a (Below.refl w.heap.size w) (.cells (declC (.slice a1 d.fl.length c1) (.slice a2 d.pr.length c2) (.slice a3 d.gl.length c3) (.slice a4 d.ob.length c4) (.slice a5 d.ve.length c5) (.slice a6 d.fu.length c6) (.slice a7 d.da.length c7)).toArray 24)
  have hW0' := hW0
  unfold declC at hW0'
  rw [hW0] at hk0 hb0
  have HK0 := Lib.hid hk0
  have HB0 := Lib.hid hb0
  clear hW0 hk0 hb0
  have kd0 := HK0.out.cell 0
  have kd1 := HK0.out.cell 1
  have kd2 := HK0.out.cell 2
  have kd3 := HK0.out.cell 3
  have kd4 := HK0.out.cell 4
  have kd5 := HK0.out.cell 5
  have kd6 := HK0.out.cell 6
  simp only [declC, List.getElem?_cons_zero, List.getElem?_cons_succ] at kd0 kd1 kd2 kd3 kd4 kd5 kd6
  go_wp2_with fail
  clear hW0' kd0 kd1 kd2 kd3 kd4 kd5 kd6
  refine (lawCount _ _ _ _ _ _ _ d W0 (HS.out.below HB0.out) hd).mono ?_
  rintro e w1 ⟨rfl, hb1⟩
  have HB1 := Lib.hid (bl_then HB0.out hb1)
  have HK1 := Lib.hid (HK0.out.below hb1)
  clear hb1 HB0 HK0
  by_cases hc : 400 < cntD d
  · go_wp2_with (go_at_call 9; refine (awake15 m _ (hm_below HM.out HB1.out)).mono ?_; rintro e w2 ⟨rfl, hb2⟩)
    go_ret
    exact ⟨rfl, bl_then HB1.out hb2⟩
  · have HF := Lib.hid (few_cnt (d := d) (by omega))
    have kd0 := HK1.out.cell 0
    have kd1 := HK1.out.cell 1
    have kd2 := HK1.out.cell 2
    have kd3 := HK1.out.cell 3
    have kd4 := HK1.out.cell 4
    have kd5 := HK1.out.cell 5
    have kd6 := HK1.out.cell 6
    simp only [declC, List.getElem?_cons_zero, List.getElem?_cons_succ] at kd0 kd1 kd2 kd3 kd4 kd5 kd6
    go_wp2_with fail
    refine (lawSource _ _ _ _ _ _ _ d _ (HS.out.below HB1.out) (few_up HF.out)).mono ?_
    rintro e w2 ⟨f', p', g', o', v', fn', dm', rfl, hsrc, hb2⟩
    have HB2 := Lib.hid (bl_then HB1.out hb2)
    have HK2 := Lib.hid (HK1.out.below hb2)
    have HSRC := Lib.hid hsrc
    clear hb2 hsrc kd0 kd1 kd2 kd3 kd4 kd5 kd6
    go_wp2_with fail
    refine (namesMake _ _ _ _ _ _ _ d m _ HSRC.out HF.out (hm_below HM.out HB2.out)).mono ?_
    rintro e w3 ⟨v1, rfl, hb3, hr1⟩
    rw [faultR_eq]
    have HB3 := Lib.hid (bl_then HB2.out hb3)
    have HK3 := Lib.hid (HK2.out.below hb3)
    clear hb3 hr1 HSRC HB1 HB2 HK1 HK2
    obtain ⟨R, hR⟩ : ∃ R, runN okN (entsD d) fourN = R := ⟨_, rfl⟩
    have HRR := Lib.hid hR
    rw [hR]
    clear hR
    rcases R with ⟨c, x⟩ | l
    · obtain ⟨hpart, ⟨hk, hnm⟩, o, ho⟩ := wrong_at HRR.out
      have hce := run_inl okN _ _ _ _ HRR.out
      have hc0 : (c == 0) = false := by rcases hce with h | h | h <;> subst h <;> rfl
      simp only [fE, fP, fN, fS]
      obtain ⟨part, hpt⟩ : ∃ q, x.part = q := ⟨_, rfl⟩
      obtain ⟨k, hkk⟩ : ∃ q, x.at_ = q := ⟨_, rfl⟩
      obtain ⟨nm, hnn⟩ : ∃ q, x.nm = q := ⟨_, rfl⟩
      have HO : Hid (runN okN (entsD (aheadD d part k)) fourN = .inr o) := Lib.hid (by rw [← hpt, ← hkk]; exact ho)
      have HP : Hid (part = 2 ∨ part = 3 ∨ part = 4 ∨ part = 5 ∨ part = 6 ∨ part = 8 ∨ part = 9) := Lib.hid (by rw [← hpt]; exact hpart)
      have HKL : Hid (∃ hk : k < (aheadL d part).length, (aheadL d part)[k] = nm) := Lib.hid (by subst hpt hkk hnn; exact ⟨hk, hnm⟩)
      rw [hpt, hkk, hnn]
      have HCE := Lib.hid hce
      clear hpt hkk hnn hpart hk hnm ho hce HRR
      have kd0 := fun o : Obj => (HK3.out.alloc o).cell 0
      have kd1 := fun o : Obj => (HK3.out.alloc o).cell 1
      have kd2 := fun o : Obj => (HK3.out.alloc o).cell 2
      have kd3 := fun o : Obj => (HK3.out.alloc o).cell 3
      have kd4 := fun o : Obj => (HK3.out.alloc o).cell 4
      have kd5 := fun o : Obj => (HK3.out.alloc o).cell 5
      have kd6 := fun o : Obj => (HK3.out.alloc o).cell 6
      simp only [declC, List.getElem?_cons_zero, List.getElem?_cons_succ] at kd0 kd1 kd2 kd3 kd4 kd5 kd6
      go_wp2_with fail
      generalize hW4 : w3.alloc _ = W4
      have hb4 : Below w3.heap.size w3 W4 := by rw [← hW4]; exact bl_a (Below.refl _ _) _
      have HF4 : Hid (BK W4 w3.heap.size [.int .i64 c, .int .i64 part, .int .i64 k, .string ⟨nm.toArray⟩] 30) := Lib.hid (by rw [← hW4]; exact BK.new w3 _ _)
      have HB4 := Lib.hid (bl_then HB3.out hb4)
      have HK4 := Lib.hid (HK3.out.below hb4)
      have hlt3 : w.heap.size < w3.heap.size := HK3.out.lt
      clear hW4 hb4 HB3 HK3 kd0 kd1 kd2 kd3 kd4 kd5 kd6
      refine (lawAhead _ _ _ _ _ _ _ d c part k _ W4 (HS.out.below HB4.out) hd HP.out HKL.out.1).mono ?_
      rintro e w5 ⟨lv, u1, u2, u3, u4, u5, u6, u7, rfl, hall, hb5⟩
      have HB5 := Lib.hid (bl_then HB4.out hb5)
      have HK5 := Lib.hid (HK4.out.below hb5)
      have HF5 := Lib.hid (HF4.out.below hb5)
      obtain ⟨hl5, hd5⟩ := hall _ (HS.out.below HB5.out)
      obtain ⟨i1, n1, h1, _, _⟩ := hd5.fl.len
      obtain ⟨i2, n2, h2, _, _⟩ := hd5.pr.len
      obtain ⟨i3, n3, h3, _, _⟩ := hd5.gl.len
      obtain ⟨i4, n4, h4, _, _⟩ := hd5.ob.len
      obtain ⟨i5, n5, h5, _, _⟩ := hd5.ve.len
      obtain ⟨i6, n6, h6, _, _⟩ := hd5.fu.len
      obtain ⟨i7, n7, h7, _, _⟩ := hd5.da.len
      obtain ⟨li, ln, hl, _, _⟩ := hl5.len
      subst h1 h2 h3 h4 h5 h6 h7 hl
      have HALL := Lib.hid hall
      have HD5 := Lib.hid hd5
      have HL5 := Lib.hid hl5
      clear hall hb5 hl5 hd5 HB4 HK4 HF4
      unfold declV
      have kd0 := HK5.out.cell 0
      have kd1 := HK5.out.cell 1
      have kd2 := HK5.out.cell 2
      have kd3 := HK5.out.cell 3
      have kd4 := HK5.out.cell 4
      have kd5 := HK5.out.cell 5
      have kd6 := HK5.out.cell 6
      have kf0 := HK5.out.fr 0
      have kf1 := HK5.out.fr 1
      have kf2 := HK5.out.fr 2
      have kf3 := HK5.out.fr 3
      have kf4 := HK5.out.fr 4
      have kf5 := HK5.out.fr 5
      have kf6 := HK5.out.fr 6
      simp only [declC, List.getElem?_cons_zero, List.getElem?_cons_succ] at kd0 kd1 kd2 kd3 kd4 kd5 kd6
      go_wp2_with fail
      generalize hW6 : World.setCell _ _ _ = W6
      have hb6 : Below w.heap.size w W6 := by rw [← hW6]; exact bl_s (bl_s (bl_s (bl_s (bl_s (bl_s (bl_s HB5.out _ _) _ _) _ _) _ _) _ _) _ _) _ _
      have HB6 := Lib.hid hb6
      have HK6 : Hid (BK W6 w.heap.size (declC (.slice i1 (aheadD d part k).fl.length n1) (.slice i2 (aheadD d part k).pr.length n2) (.slice i3 (aheadD d part k).gl.length n3) (.slice i4 (aheadD d part k).ob.length n4) (.slice i5 (aheadD d part k).ve.length n5) (.slice i6 (aheadD d part k).fu.length n6) (.slice i7 (aheadD d part k).da.length n7)) 24) := Lib.hid (by
        rw [← hW6]
        exact ((((((HK5.out.set 0 _).set 1 _).set 2 _).set 3 _).set 4 _).set 5 _).set 6 _)
      have HF6 : Hid (BK W6 w3.heap.size [.int .i64 c, .int .i64 part, .int .i64 k, .string ⟨nm.toArray⟩] 30) := Lib.hid (by
        rw [← hW6]
        exact ((((((HF5.out.setO (by omega) _ _).setO (by omega) _ _).setO (by omega) _ _).setO (by omega) _ _).setO (by omega) _ _).setO (by omega) _ _).setO (by omega) _ _)
      obtain ⟨hl6, hd6⟩ := HALL.out W6 (HS.out.below hb6)
      have HD6 := Lib.hid hd6
      obtain ⟨hkl, hknm⟩ := HKL.out
      obtain ⟨lb, lo, lc, hl, _, hlb, hlcell⟩ := str_open hl6 (by omega)
      obtain ⟨hnl, hce⟩ := hlcell k hkl
      rw [hknm] at hce hnl
      have hli : li = some ⟨lb, lo, none⟩ := by simp at hl; exact hl.1
      subst hli
      have f0 := HF6.out.cell 0
      have f1 := HF6.out.cell 1
      have f2 := HF6.out.cell 2
      have f3 := HF6.out.cell 3
      simp only [List.getElem?_cons_zero, List.getElem?_cons_succ] at f0 f1 f2 f3
      have kd0 := HK6.out.cell 0
      have kd1 := HK6.out.cell 1
      have kd2 := HK6.out.cell 2
      have kd3 := HK6.out.cell 3
      have kd4 := HK6.out.cell 4
      have kd5 := HK6.out.cell 5
      have kd6 := HK6.out.cell 6
      simp only [declC, List.getElem?_cons_zero, List.getElem?_cons_succ] at kd0 kd1 kd2 kd3 kd4 kd5 kd6
      clear hlcell hl hknm hl6 hd6 HALL HD5 HL5 HK5 HB5 HF5 hb6 hW6
      have hkl0 : k < (aheadL d part).length := hkl
      clear hkl
      have hal9 := aheadL_le hd part
      obtain ⟨al, hal⟩ : ∃ al, (aheadL d part).length = al := ⟨_, rfl⟩
      rw [hal] at hkl0 hal9
      rw [hal]
      have hkl := hkl0
      clear hal hkl0
      have g0 : decide ((k : Int) < 0) = false := by simp
      have g1 : decide (al ≤ k) = false := by simp; omega
      have hcn : W6.cell? ⟨lb, lo + k, none⟩ = some (.string ⟨nm.toArray⟩) := hce
      clear hce
      have g2 : (0 : Int) ≤ (k : Int) := by omega
      have g3 : (k : Int) < (al : Int) := by omega
      rcases HCE.out with h | h | h <;> subst h
      · go_quiet (fail)
        go_wp2_with fail
        have hbq : Below w.heap.size w (W6.drewN nq) := bl_drewN HB6.out nq
        have HFA := Lib.hid (few_ahead HF.out part k)
        refine (lawSource _ _ _ _ _ _ _ (aheadD d part k) _ (HD6.out.below (bl_drewN (Below.refl _ _) nq)) (few_up HFA.out)).mono ?_
        rintro e w8 ⟨f9, p9, g9, o9, v9, fn9, dm9, rfl, hsrc, hb8⟩
        have HB8 := Lib.hid (bl_then hbq hb8)
        have HSRC := Lib.hid hsrc
        clear hb8 hsrc hbq
        go_wp2_with fail
        refine (namesMake _ _ _ _ _ _ _ (aheadD d part k) m _ HSRC.out HFA.out (hm_below HM.out HB8.out)).mono ?_
        rintro e w9 ⟨v2, rfl, hb9, hr9⟩
        rw [faultR_eq, HO.out]
        have HB9 := Lib.hid (bl_then HB8.out hb9)
        clear hb9 hr9 HSRC
        simp only [fE, fP, fN, fS]
        go_wp2_with (go_at_call 9; refine (awake15 m _ (hm_below HM.out (bl_a HB9.out _))).mono ?_; rintro e w10 ⟨rfl, hb10⟩)
        go_ret
        exact ⟨rfl, bl_then (bl_a HB9.out _) hb10⟩
      · go_quiet (fail)
        go_wp2_with fail
        have hbq : Below w.heap.size w (W6.drewN nq) := bl_drewN HB6.out nq
        have HFA := Lib.hid (few_ahead HF.out part k)
        refine (lawSource _ _ _ _ _ _ _ (aheadD d part k) _ (HD6.out.below (bl_drewN (Below.refl _ _) nq)) (few_up HFA.out)).mono ?_
        rintro e w8 ⟨f9, p9, g9, o9, v9, fn9, dm9, rfl, hsrc, hb8⟩
        have HB8 := Lib.hid (bl_then hbq hb8)
        have HSRC := Lib.hid hsrc
        clear hb8 hsrc hbq
        go_wp2_with fail
        refine (namesMake _ _ _ _ _ _ _ (aheadD d part k) m _ HSRC.out HFA.out (hm_below HM.out HB8.out)).mono ?_
        rintro e w9 ⟨v2, rfl, hb9, hr9⟩
        rw [faultR_eq, HO.out]
        have HB9 := Lib.hid (bl_then HB8.out hb9)
        clear hb9 hr9 HSRC
        simp only [fE, fP, fN, fS]
        go_wp2_with (go_at_call 9; refine (awake15 m _ (hm_below HM.out (bl_a HB9.out _))).mono ?_; rintro e w10 ⟨rfl, hb10⟩)
        go_ret
        exact ⟨rfl, bl_then (bl_a HB9.out _) hb10⟩
      · go_quiet (fail)
        go_wp2_with fail
        have hbq : Below w.heap.size w (W6.drewN nq) := bl_drewN HB6.out nq
        have HFA := Lib.hid (few_ahead HF.out part k)
        refine (lawSource _ _ _ _ _ _ _ (aheadD d part k) _ (HD6.out.below (bl_drewN (Below.refl _ _) nq)) (few_up HFA.out)).mono ?_
        rintro e w8 ⟨f9, p9, g9, o9, v9, fn9, dm9, rfl, hsrc, hb8⟩
        have HB8 := Lib.hid (bl_then hbq hb8)
        have HSRC := Lib.hid hsrc
        clear hb8 hsrc hbq
        go_wp2_with fail
        refine (namesMake _ _ _ _ _ _ _ (aheadD d part k) m _ HSRC.out HFA.out (hm_below HM.out HB8.out)).mono ?_
        rintro e w9 ⟨v2, rfl, hb9, hr9⟩
        rw [faultR_eq, HO.out]
        have HB9 := Lib.hid (bl_then HB8.out hb9)
        clear hb9 hr9 HSRC
        simp only [fE, fP, fN, fS]
        go_wp2_with (go_at_call 9; refine (awake15 m _ (hm_below HM.out (bl_a HB9.out _))).mono ?_; rintro e w10 ⟨rfl, hb10⟩)
        go_ret
        exact ⟨rfl, bl_then (bl_a HB9.out _) hb10⟩
    · simp only [fE, fP, fN, fS]
      go_wp2_with (go_at_call 9; refine (awake15 m _ (hm_below HM.out (bl_a HB3.out _))).mono ?_; rintro e w10 ⟨rfl, hb10⟩)
      go_ret
      exact ⟨rfl, bl_then (bl_a HB3.out _) hb10⟩
end Go.Proofs.Ytdommneciojiaaa
