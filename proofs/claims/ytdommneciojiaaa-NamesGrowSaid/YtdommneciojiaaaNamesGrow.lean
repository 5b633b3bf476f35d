/- The walk of the law NamesGrow: it answers true. -/
import Derived.Test.YtdommneciojiaaaNamesLaws
import Derived.Test.YtdommneciojiaaaAppend
namespace Go.Proofs.Ytdommneciojiaaa
open Go.RowKit Go.PlainAid
set_option linter.unusedVariables false
set_option linter.unusedSimpArgs false

theorem reads_SL {w : World} {v : Value} {l : List (List UInt8)} (h : Reads Cd.str.seq w v l) : SL w v (l.map strV) := by
  obtain ⟨v', rows, h1, h2, h3, h4⟩ := h
  obtain rfl : v = v' := by simpa using h1
  obtain ⟨hm, hk, hc⟩ := h2.1
  refine ⟨by simp; omega, ?_⟩
  rcases hc with ⟨e, a, c, e2, e3⟩ | ⟨b, off, c, e2, hlt, hcell⟩
  · left
    subst e
    exact ⟨by have : l = [] := List.length_eq_zero_iff.1 (by simpa using h3.symm)
              rw [this]; rfl, a, c, e2, e3⟩
  · right
    refine ⟨b, off, c, by rw [e2, h3]; simp, hlt, fun i hi => ?_⟩
    have hi' : i < l.length := by simpa using hi
    have h5 := hcell i 0 (by omega) (by decide)
    have h6 := (h4 i (by omega) hi').1
    rw [h6] at h5
    rw [show Cd.str.k = 1 from rfl, Nat.mul_one, Nat.add_zero] at h5
    rw [h5]; simp [strV, mkB]
theorem OwS.readsC {w : World} {base : Nat} {v : Value} {L : List (List UInt8)} (h : OwS w base v L) (hm : L.length ≤ maxLen) (hx : ∀ x ∈ L, x.length ≤ maxLen) : Reads Cd.str.seq w v L := by
  have hf : ∀ L : List (List UInt8), L.map strV = (L.map (fun x => [strV x])).flatten := fun L => by
    induction L with
    | nil => rfl
    | cons a t ih => simp [ih]
  have h1 : SLN 1 w v (L.map (fun x => [strV x])) := by
    unfold OwS at h
    rw [hf L] at h
    exact SLN.own h (by simp) (fun r hr => by obtain ⟨x, _, rfl⟩ := List.mem_map.1 hr; rfl) hm
  obtain ⟨a, cap, e, hle⟩ := ow_cap h
  exact ⟨v, _, rfl, ⟨h1, a, cap, by simpa using e, by simpa using hle⟩, by simp, fun i h1 h2 => ⟨by simp [strV, mkB], hx _ (List.getElem_mem h2)⟩⟩
/-- Names stay though a block that holds no text turns. -/
theorem nm_set {w : World} {v : Value} {l : List NM} {k o : Nat} {cs : List Value} {T : TypeId} {u : Value} (h : Reads Cd.nm.seq w v l) (hk : BK w k cs T) (hs : ∀ c ∈ cs, ∀ s, c ≠ .string s) : Reads Cd.nm.seq (w.setCell ⟨k, o, none⟩ u) v l := by
  obtain ⟨v', rows, h1, h2, h3, h4⟩ := h
  obtain rfl : v = v' := by simpa using h1
  refine ⟨v, rows, rfl, ⟨⟨h2.1.1, h2.1.2.1, ?_⟩, h2.2⟩, h3, h4⟩
  rcases h2.1.2.2 with h0 | ⟨b, off, c, e, hlt, hc⟩
  · exact .inl h0
  · refine .inr ⟨b, off, c, e, by simp [World.setCell]; exact hlt, fun i j hi hj => ?_⟩
    have hne : b ≠ k := by
      intro ebk
      subst ebk
      have h5 := hc 0 0 (by omega) (by decide)
      have h6 := (h4 0 (by omega) (by omega)).1
      rw [hk.cell, h6] at h5
      have h7 : cs[off + 0 * Cd.nm.k + 0]? = some (.string ⟨(l[0]'(by omega)).nm.toArray⟩) := h5
      exact hs _ (List.mem_of_getElem? h7) _ rfl
    rw [World.cell?_setCell_other _ _ _ _ (fun e => hne (congrArg Addr.block e).symm)]
    exact hc i j hi hj
theorem mkB_len (n : List UInt8) : (mkB n).size = n.length := rfl
theorem fE_inl {R : (Int × EN) ⊕ List NM} {c : Int} {e : EN} (h : R = .inl (c, e)) (hc : c ≠ 0) : (fE R == 0) = false := by subst h; simpa [fE] using hc
set_option maxRecDepth 100000 in
set_option maxHeartbeats 8000000 in
theorem walkGrowL (f p g o v fn dm : Value) (d : DC) (n : List UInt8) (m : Int) (w : World) (hs : DeclIs w f p g o v fn dm d) (hd : cntD d ≤ 9000000000000000) (hnl : n.length ≤ maxLen) (hm : w.cell? ⟨0, 0, none⟩ = some (.int .i64 m)) :
    Calls Try.prog 5 #[declV f p g o v fn dm, .string (mkB n)] w fun e w' => e = .returned (.bool true) ∧ Below w.heap.size w w' := by
  obtain ⟨a1, c1, h1, g1, m1⟩ := hs.fl.len
  obtain ⟨a2, c2, h2, g2, m2⟩ := hs.pr.len
  obtain ⟨a3, c3, h3, g3, m3⟩ := hs.gl.len
  obtain ⟨a4, c4, h4, g4, m4⟩ := hs.ob.len
  obtain ⟨a5, c5, h5, g5, m5⟩ := hs.ve.len
  obtain ⟨a6, c6, h6, g6, m6⟩ := hs.fu.len
  obtain ⟨a7, c7, h7, g7, m7⟩ := hs.da.len
  subst h1 h2 h3 h4 h5 h6 h7
  have HS := Lib.hid hs
  clear hs g1 g2 g3 g4 g5 g6 g7 m1 m2 m3 m4 m5 m6 m7
  have HM := Lib.hid hm
  clear hm
  unfold maxLen at hnl
  have hsz := mkB_len n
  obtain ⟨i0, hi, hz0, hz1, hz2⟩ := info_parts Try.infoStr
  unfold declV
  go_enter Try.func5, Try.ntmps5
  obtain ⟨W0, hW0⟩ : ∃ W0, w.alloc (.cells (declC (.slice a1 d.fl.length c1) (.slice a2 d.pr.length c2) (.slice a3 d.gl.length c3) (.slice a4 d.ob.length c4) (.slice a5 d.ve.length c5) (.slice a6 d.fu.length c6) (.slice a7 d.da.length c7)).toArray 24) = W0 := ⟨_, rfl⟩
  have hk0 := BK.new w (declC (.slice a1 d.fl.length c1) (.slice a2 d.pr.length c2) (.slice a3 d.gl.length c3) (.slice a4 d.ob.length c4) (.slice a5 d.ve.length c5) (.slice a6 d.fu.length c6) (.slice a7 d.da.length c7)) 24
  have hb0 := bl_a (Below.refl w.heap.size w) (.cells (declC (.slice a1 d.fl.length c1) (.slice a2 d.pr.length c2) (.slice a3 d.gl.length c3) (.slice a4 d.ob.length c4) (.slice a5 d.ve.length c5) (.slice a6 d.fu.length c6) (.slice a7 d.da.length c7)).toArray 24)
  have hW0' := hW0
  unfold declC at hW0'
  rw [hW0] at hk0 hb0
  have HK0 := Lib.hid hk0
  have HB0 := Lib.hid hb0
  clear hW0 hk0 hb0
  have kd0 := HK0.out.cell 0
  have kd1 := HK0.out.cell 1
  have kd2 := HK0.out.cell 2
  have kd3 := HK0.out.cell 3
  have kd4 := HK0.out.cell 4
  have kd5 := HK0.out.cell 5
  have kd6 := HK0.out.cell 6
  simp only [declC, List.getElem?_cons_zero, List.getElem?_cons_succ] at kd0 kd1 kd2 kd3 kd4 kd5 kd6
  go_wp2_with fail
  clear hW0' kd0 kd1 kd2 kd3 kd4 kd5 kd6
  refine (lawCount _ _ _ _ _ _ _ d W0 (HS.out.below HB0.out) hd).mono ?_
  rintro e w1 ⟨rfl, hb1⟩
  have HB1 := Lib.hid (bl_then HB0.out hb1)
  have HK1 := Lib.hid (HK0.out.below hb1)
  clear hb1 HB0 HK0
  by_cases hc : 300 < cntD d
  · go_wp2_with (go_at_call 9; refine (awake15 m _ (hm_below HM.out HB1.out)).mono ?_; rintro e w2 ⟨rfl, hb2⟩)
    go_ret
    exact ⟨rfl, bl_then HB1.out hb2⟩
  · by_cases hn : 30 < n.length
    · go_wp2_with (go_at_call 9; refine (awake15 m _ (hm_below HM.out HB1.out)).mono ?_; rintro e w2 ⟨rfl, hb2⟩)
      go_ret
      exact ⟨rfl, bl_then HB1.out hb2⟩
    · have HF := Lib.hid (few_cnt (d := d) (by omega))
      have kd0 := HK1.out.cell 0
      have kd1 := HK1.out.cell 1
      have kd2 := HK1.out.cell 2
      have kd3 := HK1.out.cell 3
      have kd4 := HK1.out.cell 4
      have kd5 := HK1.out.cell 5
      have kd6 := HK1.out.cell 6
      simp only [declC, List.getElem?_cons_zero, List.getElem?_cons_succ] at kd0 kd1 kd2 kd3 kd4 kd5 kd6
      go_wp2_with fail
      refine (lawSource _ _ _ _ _ _ _ d _ (HS.out.below HB1.out) (few_up HF.out)).mono ?_
      rintro e w2 ⟨f', p', g', o', v', fn', dm', rfl, hsrc, hb2⟩
      have HB2 := Lib.hid (bl_then HB1.out hb2)
      have HK2 := Lib.hid (HK1.out.below hb2)
      have HSRC := Lib.hid hsrc
      clear hb2 hsrc kd0 kd1 kd2 kd3 kd4 kd5 kd6
      go_wp2_with fail
      refine (namesMake _ _ _ _ _ _ _ d m _ HSRC.out HF.out (hm_below HM.out HB2.out)).mono ?_
      rintro e w3 ⟨v1, rfl, hb3, hr1⟩
      rw [faultR_eq]
      have HB3 := Lib.hid (bl_then HB2.out hb3)
      have HK3 := Lib.hid (HK2.out.below hb3)
      have HR1 := Lib.hid hr1
      clear hb3 hr1 HSRC
      obtain ⟨R, hR⟩ : ∃ R, runN okN (entsD d) fourN = R := ⟨_, rfl⟩
      have HRR := Lib.hid hR
      rw [hR] at HR1
      rw [hR]
      clear hR
      have hdl : d.da.length ≤ 300 := by unfold cntD at hc; omega
      have HSL := Lib.hid (fun w' (hb : Below w.heap.size w w') => reads_SL (HS.out.da.below hb))
      have hone : ∀ u ∈ d.da.map strV, u.oneCell' = true := fun u hu => by obtain ⟨x, _, rfl⟩ := List.mem_map.1 hu; rfl
      have HONE := Lib.hid hone
      have hbm : 0 + (d.da.map strV).length ≤ maxLen ∧ (0 + (d.da.map strV).length) * 16 ≤ 140737488355328 := by rw [List.length_map]; unfold maxLen; omega
      have HBM := Lib.hid hbm
      clear hone hbm
      have kd0 := fun o : Obj => (HK3.out.alloc o).cell 0
      have kd1 := fun o : Obj => (HK3.out.alloc o).cell 1
      have kd2 := fun o : Obj => (HK3.out.alloc o).cell 2
      have kd3 := fun o : Obj => (HK3.out.alloc o).cell 3
      have kd4 := fun o : Obj => (HK3.out.alloc o).cell 4
      have kd5 := fun o : Obj => (HK3.out.alloc o).cell 5
      have kd6 := fun o : Obj => (HK3.out.alloc o).cell 6
      simp only [declC, List.getElem?_cons_zero, List.getElem?_cons_succ] at kd0 kd1 kd2 kd3 kd4 kd5 kd6
      have kfr := fun ob : Obj => (HK3.out.alloc ob).fr 6
      have HKF := Lib.hid (BK.new w3 [.int .i64 (fE R), .int .i64 (fP R), .int .i64 (fN R), .string (fS R)] 30)
      go_wp2_with (first
        | (at_builtin; refine wpList_append_own _ rfl _ _ 22 rfl (w3.heap.size + 1) 9 i0 (.string ByteArray.empty) 1 16 Try.underlying22 hi hz0 hz1 hz2 rfl (by decide) v5 _ _ rfl (hown5.alloc _) ⟨w5.heap.size, 0, none⟩ 1 1 [.string (mkB n)] rfl rfl (one_at rfl) (ow_one rfl) (by rw [List.length_map]; unfold maxLen; omega) (by rw [List.length_map]; omega) (ow_le hs5 _) ?_; intro v6 w6 hown6 hgrow6 _; obtain ⟨a8, c8, hv6⟩ := ow_shape hown6; subst hv6; have hb6 := bl_g (bl_a hb5 _) hgrow6 (fun k hk => by have := ow_lo hown5 k hk; omega); have k6 := HK3.out.below hb6; have c66 := k6.cell 6; have c60 := k6.cell 0; have c61 := k6.cell 1; have c62 := k6.cell 2; have c63 := k6.cell 3; have c64 := k6.cell 4; have c65 := k6.cell 5; have c6f := k6.fr 6; simp only [declC, List.getElem?_cons_zero, List.getElem?_cons_succ] at c60 c61 c62 c63 c64 c65 c66; have KF6 := Lib.hid ((KF5.out.alloc _).kept hgrow6 (fun k hk => by have := ow_lo hown5 k hk; omega)); have K6 := Lib.hid k6; have HB6 := Lib.hid hb6; clear k6 hb6)
        | (at_builtin; refine wpList_append_SL rfl _ _ 22 rfl (w3.heap.size + 1) 9 i0 (.string ByteArray.empty) 16 Try.underlying22 hi hz0 hz1 hz2 rfl (.slice none 0 0) 0 [] rfl (World.ownsRow_nil _ _ _ _) (.slice a7 d.da.length c7) (d.da.map strV) rfl (HSL.out _ (bl_a HB3.out _)) HONE.out HBM.out.1 HBM.out.2 (by simp) ?_; intro v5 w5 hown5 hgrow5; have hb5 := bl_g (bl_a (Below.refl w3.heap.size w3) _) hgrow5 (fun k hk => by cases hk); have KF5 := Lib.hid (HKF.out.kept hgrow5 (fun k hk => by cases hk)); have hs5 : w3.heap.size + 1 ≤ w5.heap.size := by have := hgrow5.size; simpa using this))
      have hs6 : w3.heap.size + 1 ≤ w6.heap.size := by have := hgrow6.size; simp at this; omega
      generalize hW7 : w6.setCell _ _ = W7
      have K7 : Hid (BK W7 w.heap.size (declC (.slice a1 d.fl.length c1) (.slice a2 d.pr.length c2) (.slice a3 d.gl.length c3) (.slice a4 d.ob.length c4) (.slice a5 d.ve.length c5) (.slice a6 d.fu.length c6) (.slice a8 (d.da.length + 1) c8)) 24) := Lib.hid (by
        rw [← hW7]
        have := K6.out.set 6 (.slice a8 (d.da.length + 1) c8)
        simpa [declC] using this)
      have hb7 : Below w.heap.size w W7 := by rw [← hW7]; exact bl_s (bl_then HB3.out HB6.out) _ _
      have HB7 := Lib.hid hb7
      have KF7 : Hid (BK W7 w3.heap.size [.int .i64 (fE R), .int .i64 (fP R), .int .i64 (fN R), .string (fS R)] 30) := Lib.hid (by rw [← hW7]; exact KF6.out.setO (by have := HK3.out.lt; omega) _ _)
      have HR7 : Hid (Reads Cd.nm.seq W7 v1 (namesR R)) := Lib.hid (by rw [← hW7]; exact nm_set (HR1.out.below HB6.out) K6.out (fun c hc s e => by subst e; simp [declC] at hc))
      have hO7 : OwS W7 (w3.heap.size + 1) (.slice a8 (d.da.length + 1) c8) (d.da ++ [n]) := by
        rw [← hW7]
        refine ow_grown ?_ (gr_set _ _ _ _) (fun j hj => by have := Option.some.inj hj; have := HK3.out.lt; omega)
        have := hown6
        simp only [List.length_map, Nat.zero_add, List.nil_append] at this
        simpa [strV] using this
      have hdl7 : (d.da ++ [n]).length ≤ maxLen := by simp; unfold maxLen; omega
      have HD7 : Hid (DeclIs W7 (.slice a1 d.fl.length c1) (.slice a2 d.pr.length c2) (.slice a3 d.gl.length c3) (.slice a4 d.ob.length c4) (.slice a5 d.ve.length c5) (.slice a6 d.fu.length c6) (.slice a8 (d.da.length + 1) c8) (growD d n)) := Lib.hid (by
        have h0 := HS.out.below hb7
        exact ⟨h0.fl, h0.pr, h0.gl, h0.ob, h0.ve, h0.fu, hO7.readsC hdl7 (fun x hx => by
          rcases List.mem_append.1 hx with hx | hx
          · exact str_all HS.out.da x hx
          · rw [List.mem_singleton.1 hx]; unfold maxLen; omega)⟩)
      have HF7 : Hid ((growD d n).few 400) := Lib.hid (few_cnt (by unfold cntD at hc ⊢; unfold growD; simp; omega))
      clear hW7 hb7 hO7 hdl7 hown6 hgrow6 hown5 hgrow5 hb5 hs5 hs6 c60 c61 c62 c63 c64 c65 c66 c6f KF6 K6 HB6 KF5 HKF HONE HBM HSL kd0 kd1 kd2 kd3 kd4 kd5 kd6 kfr
      refine (lawSource _ _ _ _ _ _ _ (growD d n) _ HD7.out (few_up HF7.out)).mono ?_
      rintro e w8 ⟨f', p', g', o', v', fn', dm', rfl, hsrc, hb8⟩
      have HB8 := Lib.hid (bl_then HB7.out hb8)
      have KF8 := Lib.hid (KF7.out.below hb8)
      have K8 := Lib.hid (K7.out.below hb8)
      have HR8 := Lib.hid (HR7.out.below hb8)
      have HSRC := Lib.hid hsrc
      clear hb8 hsrc
      go_wp2_with fail
      refine (namesMake _ _ _ _ _ _ _ (growD d n) m _ HSRC.out HF7.out (hm_below HM.out HB8.out)).mono ?_
      rintro e w9 ⟨v2, rfl, hb9, hr9⟩
      rw [faultR_eq]
      have HB9 := Lib.hid (bl_then HB8.out hb9)
      have KF9 := Lib.hid (KF8.out.below hb9)
      have K9 := Lib.hid (K8.out.below hb9)
      have HR9 := Lib.hid (HR8.out.below hb9)
      have HQ9 := Lib.hid hr9
      obtain ⟨R2, hR2⟩ : ∃ R, runN okN (entsD (growD d n)) fourN = R := ⟨_, rfl⟩
      have HRR2 := Lib.hid hR2
      rw [hR2] at HQ9
      rw [hR2]
      clear hb9 hr9 HSRC hR2 HB1 HB2 HB3 HK1 HK2 HK3 HB7 KF7 HR1 HR7 HD7 HF7 HB8 KF8 K8 HR8
      have f0 := fun ob : Obj => (KF9.out.alloc ob).cell 0
      have f1 := fun ob : Obj => (KF9.out.alloc ob).cell 1
      have f2 := fun ob : Obj => (KF9.out.alloc ob).cell 2
      have f3 := fun ob : Obj => (KF9.out.alloc ob).cell 3
      simp only [List.getElem?_cons_zero, List.getElem?_cons_succ] at f0 f1 f2 f3
      rcases hRc : R with ⟨c, e⟩ | l
      · have hR2c : R2 = .inl (c, e) := by rw [← HRR2.out]; exact grow_inl (HRR.out.trans hRc)
        have hce := run_inl okN _ _ _ _ (HRR.out.trans hRc)
        have hc0 : (c == 0) = false := by rcases hce with h | h | h <;> subst h <;> rfl
        subst hRc hR2c
        simp only [fE, fP, fN, fS] at f0 f1 f2 f3 ⊢
        clear hce
        go_wp2_with (go_at_call 9; refine (awake15 m _ (hm_below HM.out (bl_a HB9.out _))).mono ?_; rintro e w10 ⟨rfl, hb10⟩)
        go_ret
        exact ⟨rfl, bl_then (bl_a HB9.out _) hb10⟩
      · rcases hR2c : R2 with ⟨c, e⟩ | l2
        · have hce := run_inl okN _ _ _ _ (HRR2.out.trans hR2c)
          have hc0 : (c == 0) = false := by rcases hce with h | h | h <;> subst h <;> rfl
          subst hRc hR2c
          simp only [fE, fP, fN, fS] at f0 f1 f2 f3 ⊢
          clear hce
          go_wp2_with (go_at_call 9; refine (awake15 m _ (hm_below HM.out (bl_a HB9.out _))).mono ?_; rintro e w10 ⟨rfl, hb10⟩)
          go_ret
          exact ⟨rfl, bl_then (bl_a HB9.out _) hb10⟩
        · have HM1 := Lib.hid (made_of (HRR.out.trans hRc))
          have HM2 := Lib.hid (made_of (HRR2.out.trans hR2c))
          have HEQ := Lib.hid (grow_inr (HRR.out.trans hRc) (HRR2.out.trans hR2c))
          subst hRc hR2c
          simp only [fE, fP, fN, fS] at f0 f1 f2 f3 ⊢
          obtain ⟨T, hT⟩ : ∃ T, sortN l = T := ⟨_, rfl⟩
          obtain ⟨U, hU⟩ : ∃ U, sortN l2 = U := ⟨_, rfl⟩
          have HRU : Hid (RisesN U) := Lib.hid (by rw [← hU]; exact HM2.out.rises)
          have HUL : Hid (U.length = T.length + 1) := Lib.hid (by rw [← hU, ← hT, (sort_perm l2).length_eq, (sort_perm l).length_eq, HEQ.out]; simp)
          have hTl : T.length ≤ 310 := by rw [← hT, HM1.out.len]; omega
          have hUl : U.length ≤ 311 := by rw [HUL.out]; omega
          have HFX : Hid (∀ x ∈ T, findN U x.nm = some x) := Lib.hid (fun x hx => by
            rw [← hU]
            refine HM2.out.find ((sort_perm l2).mem_iff.2 ?_)
            rw [HEQ.out]
            exact List.mem_append_left _ ((sort_perm l).mem_iff.1 (by rw [hT]; exact hx)))
          have HFN : Hid (findN U n = some ⟨n, 7, (d.da.length : Int)⟩) := Lib.hid (by
            rw [← hU]
            refine HM2.out.find (x := ⟨n, 7, (d.da.length : Int)⟩) ((sort_perm l2).mem_iff.2 ?_)
            rw [HEQ.out]
            exact List.mem_append_right _ (List.mem_singleton.2 rfl))
          have HR10 : Hid (Reads Cd.nm.seq w9 v1 T) := Lib.hid (by rw [← hT]; exact HR9.out)
          have HQ10 : Hid (Reads Cd.nm.seq w9 v2 U) := Lib.hid (by rw [← hU]; exact HQ9.out)
          have HFUN := Lib.hid (fun w' (hr : Reads Cd.nm.seq w' v2 U) (q : List UInt8) => namesFind v2 U q w' hr HRU.out (by omega))
          obtain ⟨ta, tc, htv, _, _⟩ := HR10.out.len
          obtain ⟨ua, uc, huv, _, _⟩ := HQ10.out.len
          subst htv huv
          clear hT hU HR9 HQ9 HM1 HM2 HEQ HRR HRR2 HF HS
          go_wp2_with fail
          clear f0 f1 f2 f3 KF9
          generalize hW10 : w9.alloc _ = W10
          have hb10 : Below w9.heap.size w9 W10 := by rw [← hW10]; exact bl_a (Below.refl _ _) _
          have hfn := HFUN.out W10 (HQ10.out.below hb10) n
          rw [HFN.out] at hfn
          rw [show nmV ((some (⟨n, 7, (d.da.length : Int)⟩ : NM)).getD zeroNM) = .agg #[.string (mkB n), .int .i64 7, .int .i64 d.da.length] from rfl, show (some (⟨n, 7, (d.da.length : Int)⟩ : NM)).isSome = true from rfl] at hfn
          refine hfn.mono ?_
          rintro e w11 ⟨rfl, hb11⟩
          have hb911 := bl_then hb10 hb11
          have HB11 := Lib.hid (bl_then HB9.out hb911)
          have K11 := Lib.hid (K9.out.below hb911)
          have HR11 := Lib.hid (HR10.out.below hb911)
          have HQ11 := Lib.hid (HQ10.out.below hb911)
          clear hW10 hb10 hfn hb11 hb911 HB9 K9 HR10 HQ10
          go_wp2_with fail
          generalize hW12 : w11.alloc _ = W12
          have hb12 : Below w11.heap.size w11 W12 := by rw [← hW12]; exact bl_a (Below.refl _ _) _
          have K12n : Hid (BK W12 w11.heap.size [.string (mkB n), .int .i64 7, .int .i64 d.da.length] 46) := Lib.hid (by rw [← hW12]; exact BK.new w11 _ _)
          have HB12 := Lib.hid (bl_then HB11.out hb12)
          have K12 := Lib.hid (K11.out.below hb12)
          have HR12 := Lib.hid (HR11.out.below hb12)
          have HQ12 := Lib.hid (HQ11.out.below hb12)
          clear hW12 hb12 HB11 K11 HR11 HQ11
          go_loopw [70] (fun i wr => ∃ (p : Nat), i = .int .i64 p ∧ p ≤ T.length ∧ Hid (Below W12.heap.size W12 wr)) (fun i _ => T.length - (intOf i).toNat)
          case atStart => exact ⟨0, rfl, Nat.zero_le _, Lib.hid (Below.refl _ _)⟩
          case round =>
            obtain ⟨p, rfl, hpl, hB⟩ := hrel
            by_cases hlt : p < T.length
            · obtain ⟨b, off, cap, hv, hcap, hblt, hcell⟩ := nm_open (HR12.out.below hB.out) (by omega)
              have hac : ta = some ⟨b, off, none⟩ := by simp at hv; exact hv.1
              subst hac
              obtain ⟨e0, e1, e2⟩ := hcell p hlt
              have HX := Lib.hid (HFX.out _ (List.getElem_mem hlt))
              generalize T[p] = x at e0 e1 e2 HX
              clear hcell hv
              go_wp2_with fail
              generalize hW13 : wr.alloc _ = W13
              have hb13 : Below wr.heap.size wr W13 := by rw [← hW13]; exact bl_a (Below.refl _ _) _
              have K13 : Hid (BK W13 wr.heap.size [.string ⟨x.nm.toArray⟩, .int .i64 x.kd, .int .i64 x.nu] 46) := Lib.hid (by rw [← hW13]; exact BK.new wr _ _)
              have hfn := HFUN.out W13 (HQ12.out.below (bl_then hB.out hb13)) x.nm
              rw [HX.out] at hfn
              rw [show nmV ((some x).getD zeroNM) = .agg #[.string ⟨x.nm.toArray⟩, .int .i64 x.kd, .int .i64 x.nu] from rfl, show (some x).isSome = true from rfl] at hfn
              refine hfn.mono ?_
              rintro e w14 ⟨rfl, hb14⟩
              have HB14 := Lib.hid (bl_then (bl_then hB.out hb13) hb14)
              have K14 := Lib.hid (K13.out.below hb14)
              have f0 := fun ob : Obj => (K14.out.alloc ob).cell 0
              have f1 := fun ob : Obj => (K14.out.alloc ob).cell 1
              have f2 := fun ob : Obj => (K14.out.alloc ob).cell 2
              simp only [List.getElem?_cons_zero, List.getElem?_cons_succ] at f0 f1 f2
              clear hW13 hb13 K13 hfn hb14 K14 HX e0 e1 e2
              go_wp2
              go_roundw
              case rel => exact ⟨p + 1, by go_num, by omega, Lib.hid (bl_a HB14.out _)⟩
              case measure => simp [intOf]; omega
            · have f0 := (K12n.out.below hB.out).cell 0
              have f1 := (K12n.out.below hB.out).cell 1
              have f2 := (K12n.out.below hB.out).cell 2
              have f6 := (K12.out.below hB.out).cell 6
              simp only [declC, List.getElem?_cons_zero, List.getElem?_cons_succ] at f0 f1 f2 f6
              have hul := HUL.out
              have hsub : IntKind.i64.wrap ((d.da.length : Int) + 1 - 1) = (d.da.length : Int) := by rw [IntWalk.i64_in _ (by omega)]; omega
              have HBr := Lib.hid (bl_then HB12.out hB.out)
              go_wp2_with (go_at_call 9; refine (awake15 m _ (hm_below HM.out HBr.out)).mono ?_; rintro e w15 ⟨rfl, hb15⟩)
              go_ret
              exact ⟨rfl, bl_then HBr.out hb15⟩
theorem walkGrow (f p g o v fn dm : Value) (d : DC) (s : ByteArray) (m : Int) (w : World) (hs : DeclIs w f p g o v fn dm d) (hd : cntD d ≤ 9000000000000000) (hnl : s.size ≤ maxLen) (hm : w.cell? ⟨0, 0, none⟩ = some (.int .i64 m)) :
    Calls Try.prog 5 #[declV f p g o v fn dm, .string s] w fun e w' => e = .returned (.bool true) ∧ Below w.heap.size w w' := by
  have := walkGrowL f p g o v fn dm d s.data.toList m w hs hd (by rw [Array.length_toList]; exact hnl) hm
  simpa [mkB] using this
end Go.Proofs.Ytdommneciojiaaa
