/- The walk of the law NamesBack: it answers true. -/
import Derived.Test.YtdommneciojiaaaNamesLaws
import Derived.Deep.RegionHeld3
namespace Go.Proofs.Ytdommneciojiaaa
open Go.RowKit Go.PlainAid
set_option linter.unusedVariables false
set_option linter.unusedSimpArgs false

theorem four_okN : ∀ x ∈ fourN, okN x.nm = true := by
  intro x hx
  simp only [fourN, List.mem_cons, List.not_mem_nil, or_false] at hx
  rcases hx with rfl | rfl | rfl | rfl <;> decide +kernel
/-- What the law asks of a name. -/
structure BackOk (T : List NM) (x : NM) : Prop where
  find : findN T x.nm = some x
  of1 : (ofN T x.kd x.nm).1 = x.nu
  of2 : (ofN T x.kd x.nm).2 = 0
  text : textN T x.kd x.nu = x.nm
  name : isNameL x.nm = true
  key : keyL x.nm = false
theorem back_ok {d : DC} {l : List NM} (h : Made okN d l) {x : NM} (hx : x ∈ sortN l) : BackOk (sortN l) x := by
  have hf := h.find hx
  have hk := h.ok four_okN hx
  simp only [okN, Bool.and_eq_true, Bool.not_eq_true'] at hk
  refine ⟨hf, ?_, ?_, h.text hx, hk.1, hk.2⟩
  · unfold ofN; rw [hf]; simp
  · unfold ofN; rw [hf]; simp
theorem nameL_len {l : List UInt8} (h : isNameL l = true) : l.length ≤ 24 := by
  unfold isNameL at h
  simp only [Bool.and_eq_true, decide_eq_true_eq] at h
  exact h.1.1.2
/-- One operation first, by its place in the list. -/
theorem take_at {P : Program} {md : Region.Mode} {l r : List Oper} {Q : Exit → Act → World → Prop} {S : World → Prop} {oi : Oper} {v : Value} {fuel : Nat} {listed : Array Bool} {a : Act} {w : World} (i : Nat) (hi : l.drop i = oi :: r)
    (hs : Region.noSelect l.toArray = true) (hf : Region.free md l.toArray listed i = true) (hr : (Region.ready md l.toArray listed).contains i = true)
    (hQ : ∀ c a w, Q (.panic c) (a.put oi.dst v) w → Q (.panic c) a w) (hy : YieldsIf P l.toArray S oi v a) (hS : S w)
    (h : wpAnyH P md l.toArray Q S fuel (listed.setIfInBounds i true) (a.put oi.dst v) w) : wpAnyH P md l.toArray Q S (fuel + 1) listed a w :=
  wpAnyH_take (by have := congrArg List.head? hi; simpa using this) hs hf hr hQ hy hS h
set_option maxRecDepth 100000 in
set_option maxHeartbeats 8000000 in
theorem walkBack (f p g o v fn dm : Value) (d : DC) (m : Int) (w : World) (hs : DeclIs w f p g o v fn dm d) (hd : cntD d ≤ 9000000000000000) (hm : w.cell? ⟨0, 0, none⟩ = some (.int .i64 m)) :
    Calls Try.prog 7 #[declV f p g o v fn dm] w fun e w' => e = .returned (.bool true) ∧ Below w.heap.size w w' := by
  obtain ⟨a1, c1, h1, g1, m1⟩ := hs.fl.len
  obtain ⟨a2, c2, h2, g2, m2⟩ := hs.pr.len
  obtain ⟨a3, c3, h3, g3, m3⟩ := hs.gl.len
  obtain ⟨a4, c4, h4, g4, m4⟩ := hs.ob.len
  obtain ⟨a5, c5, h5, g5, m5⟩ := hs.ve.len
  obtain ⟨a6, c6, h6, g6, m6⟩ := hs.fu.len
  obtain ⟨a7, c7, h7, g7, m7⟩ := hs.da.len
  subst h1 h2 h3 h4 h5 h6 h7
  have HS := Lib.hid hs
  clear hs g1 g2 g3 g4 g5 g6 g7 m1 m2 m3 m4 m5 m6 m7
  have HM := Lib.hid hm
  clear hm
  unfold declV
  go_enter Try.func7, Try.ntmps7
  obtain ⟨W0, hW0⟩ : ∃ W0, w.alloc (.cells (declC (.slice a1 d.fl.length c1) (.slice a2 d.pr.length c2) (.slice a3 d.gl.length c3) (.slice a4 d.ob.length c4) (.slice a5 d.ve.length c5) (.slice a6 d.fu.length c6) (.slice a7 d.da.length c7)).toArray 24) = W0 := ⟨_, rfl⟩
  have hk0 := BK.new w (declC (.slice a1 d.fl.length c1) (.slice a2 d.pr.length c2) (.slice a3 d.gl.length c3) (.slice a4 d.ob.length c4) (.slice a5 d.ve.length c5) (.slice a6 d.fu.length c6) (.slice a7 d.da.length c7)) 24
  have hb0 := bl_a (Below.refl w.heap.size w) (.cells (declC (.slice a1 d.fl.length c1) (.slice a2 d.pr.length c2) (.slice a3 d.gl.length c3) (.slice a4 d.ob.length c4) (.slice a5 d.ve.length c5) (.slice a6 d.fu.length c6) (.slice a7 d.da.length c7)).toArray 24)
  have hW0' := hW0
  unfold declC at hW0'
  rw [hW0] at hk0 hb0
  have HK0 := Lib.hid hk0
  have HB0 := Lib.hid hb0
  clear hW0 hk0 hb0
  have kd0 := HK0.out.cell 0
  have kd1 := HK0.out.cell 1
  have kd2 := HK0.out.cell 2
  have kd3 := HK0.out.cell 3
  have kd4 := HK0.out.cell 4
  have kd5 := HK0.out.cell 5
  have kd6 := HK0.out.cell 6
  simp only [declC, List.getElem?_cons_zero, List.getElem?_cons_succ] at kd0 kd1 kd2 kd3 kd4 kd5 kd6
  go_wp2_with fail
  clear hW0' kd0 kd1 kd2 kd3 kd4 kd5 kd6
  refine (lawCount _ _ _ _ _ _ _ d W0 (HS.out.below HB0.out) hd).mono ?_
  rintro e w1 ⟨rfl, hb1⟩
  have HB1 := Lib.hid (bl_then HB0.out hb1)
  have HK1 := Lib.hid (HK0.out.below hb1)
  clear hb1 HB0 HK0
  by_cases hc : 400 < cntD d
  · go_wp2_with (go_at_call 9; refine (awake15 m _ (hm_below HM.out HB1.out)).mono ?_; rintro e w2 ⟨rfl, hb2⟩)
    go_ret
    exact ⟨rfl, bl_then HB1.out hb2⟩
  · have HF := Lib.hid (few_cnt (d := d) (by omega))
    have kd0 := HK1.out.cell 0
    have kd1 := HK1.out.cell 1
    have kd2 := HK1.out.cell 2
    have kd3 := HK1.out.cell 3
    have kd4 := HK1.out.cell 4
    have kd5 := HK1.out.cell 5
    have kd6 := HK1.out.cell 6
    simp only [declC, List.getElem?_cons_zero, List.getElem?_cons_succ] at kd0 kd1 kd2 kd3 kd4 kd5 kd6
    go_wp2_with fail
    refine (lawSource _ _ _ _ _ _ _ d _ (HS.out.below HB1.out) (few_up HF.out)).mono ?_
    rintro e w2 ⟨f', p', g', o', v', fn', dm', rfl, hsrc, hb2⟩
    have HB2 := Lib.hid (bl_then HB1.out hb2)
    have HK2 := Lib.hid (HK1.out.below hb2)
    have HSRC := Lib.hid hsrc
    clear hb2 hsrc kd0 kd1 kd2 kd3 kd4 kd5 kd6
    go_wp2_with fail
    refine (namesMake _ _ _ _ _ _ _ d m _ HSRC.out HF.out (hm_below HM.out HB2.out)).mono ?_
    rintro e w3 ⟨v1, rfl, hb3, hr1⟩
    rw [faultR_eq]
    have HB3 := Lib.hid (bl_then HB2.out hb3)
    have HK3 := Lib.hid (HK2.out.below hb3)
    obtain ⟨R, hR⟩ : ∃ R, runN okN (entsD d) fourN = R := ⟨_, rfl⟩
    have HRR := Lib.hid hR
    rw [hR] at hr1
    have HR3 := Lib.hid hr1
    rw [hR]
    clear hR hb3 hr1 HSRC HB1 HB2 HK1 HK2
    rcases R with ⟨c, x⟩ | l
    · have hce := run_inl okN _ _ _ _ HRR.out
      have hc0 : (c == 0) = false := by rcases hce with h | h | h <;> subst h <;> rfl
      obtain ⟨ta, tc, htv, _, _⟩ := HR3.out.len
      have htv' : v1 = .slice ta 0 tc := htv
      subst htv'
      simp only [fE, fP, fN, fS]
      clear hce
      go_wp2_with (go_at_call 9; refine (awake15 m _ (hm_below HM.out (bl_a HB3.out _))).mono ?_; rintro e w10 ⟨rfl, hb10⟩)
      go_ret
      exact ⟨rfl, bl_then (bl_a HB3.out _) hb10⟩
    · have HM1 := Lib.hid (made_of HRR.out)
      simp only [fE, fP, fN, fS]
      obtain ⟨T, hT⟩ : ∃ T, sortN l = T := ⟨_, rfl⟩
      have HRT : Hid (RisesN T) := Lib.hid (by rw [← hT]; exact HM1.out.rises)
      have HTL : Hid (T.length = cntD d + 4) := Lib.hid (by rw [← hT]; exact HM1.out.len)
      have hTl : T.length ≤ 404 := by rw [HTL.out]; omega
      have HOK : Hid (∀ x ∈ T, BackOk T x) := Lib.hid (fun x hx => by rw [← hT] at hx ⊢; exact back_ok HM1.out hx)
      have HR4 : Hid (Reads Cd.nm.seq w3 v1 T) := Lib.hid (by rw [← hT]; exact HR3.out)
      have HFN := Lib.hid (fun w' (hr : Reads Cd.nm.seq w' v1 T) (q : List UInt8) => namesFind v1 T q w' hr HRT.out (by omega))
      have HON := Lib.hid (fun w' (hr : Reads Cd.nm.seq w' v1 T) (k : Int) (q : List UInt8) => namesOf v1 T k q w' hr HRT.out (by omega))
      have HTX := Lib.hid (fun w' (hr : Reads Cd.nm.seq w' v1 T) (k n : Int) => namesText v1 T k n w' hr (by omega))
      obtain ⟨ta, tc, htv, _, _⟩ := HR4.out.len
      subst htv
      clear hT HR3 HM1 HRR
      go_wp2_with fail
      generalize hW4 : w3.alloc _ = W4
      have hb4 : Below w3.heap.size w3 W4 := by rw [← hW4]; exact bl_a (Below.refl _ _) _
      have HB4 := Lib.hid (bl_then HB3.out hb4)
      have HK4 := Lib.hid (HK3.out.below hb4)
      have HR5 := Lib.hid (HR4.out.below hb4)
      clear hW4 hb4 HB3 HK3 HR4
      go_loopw [32] (fun i wr => ∃ (p : Nat), i = .int .i64 p ∧ p ≤ T.length ∧ Hid (Below W4.heap.size W4 wr)) (fun i _ => T.length - (intOf i).toNat)
      case atStart => exact ⟨0, rfl, Nat.zero_le _, Lib.hid (Below.refl _ _)⟩
      case round =>
        obtain ⟨p, rfl, hpl, hB⟩ := hrel
        by_cases hlt : p < T.length
        · obtain ⟨b, off, cap, hv, hcap, hblt, hcell⟩ := nm_open (HR5.out.below hB.out) (by omega)
          have hac : ta = some ⟨b, off, none⟩ := by simp at hv; exact hv.1
          subst hac
          obtain ⟨e0, e1, e2⟩ := hcell p hlt
          have HBK := Lib.hid (HOK.out _ (List.getElem_mem hlt))
          have HPV : Hid (∀ q, ∀ h : q + 1 = p, ∃ y : NM, wr.cell? ⟨b, off + q * 3, none⟩ = some (.string ⟨y.nm.toArray⟩) ∧ Op.bytesLess y.nm T[p].nm = true) := Lib.hid (fun q hq => by
            subst hq
            exact ⟨T[q]'(by omega), (hcell q (by omega)).1, List.pairwise_iff_getElem.1 HRT.out q (q + 1) (by omega) hlt (by omega)⟩)
          generalize T[p] = x at e0 e1 e2 HBK HPV
          clear hcell hv
          go_wp2_with fail
          generalize hW13 : wr.alloc _ = W13
          have hb13 : Below wr.heap.size wr W13 := by rw [← hW13]; exact bl_a (Below.refl _ _) _
          have K13 : Hid (BK W13 wr.heap.size [.string ⟨x.nm.toArray⟩, .int .i64 x.kd, .int .i64 x.nu] 46) := Lib.hid (by rw [← hW13]; exact BK.new wr _ _)
          have HC13 := Lib.hid (bl_then hB.out hb13)
          have HR13 := Lib.hid (HR5.out.below HC13.out)
          have hpv13 : ∀ q, ∀ h : q + 1 = p, ∃ y : NM, W13.cell? ⟨b, off + q * 3, none⟩ = some (.string ⟨y.nm.toArray⟩) ∧ Op.bytesLess y.nm x.nm = true := fun q hq => by
            obtain ⟨y, h1, h2⟩ := HPV.out q hq
            exact ⟨y, (hb13.cell (p := ⟨b, off + q * 3, none⟩) hblt).trans h1, h2⟩
          have HP13 := Lib.hid hpv13
          have hblt13 : b < W13.heap.size := Nat.lt_of_lt_of_le hblt hb13.size
          have hfn := HFN.out W13 HR13.out x.nm
          rw [HBK.out.find] at hfn
          rw [show nmV ((some x).getD zeroNM) = .agg #[.string ⟨x.nm.toArray⟩, .int .i64 x.kd, .int .i64 x.nu] from rfl, show (some x).isSome = true from rfl] at hfn
          clear hW13 hb13 e0 e1 e2 HPV hpv13
          refine hfn.mono ?_
          rintro e w14 ⟨rfl, hb14⟩
          have HC14 := Lib.hid (bl_then HC13.out hb14)
          have K14 := Lib.hid (K13.out.below hb14)
          have HD14 := Lib.hid hb14
          have hn0 : wr.heap.size < w14.heap.size := K14.out.lt
          clear hfn hb14
          have f0 := fun ob : Obj => (K14.out.alloc ob).cell 0
          have f1 := fun ob : Obj => (K14.out.alloc ob).cell 1
          simp only [List.getElem?_cons_zero, List.getElem?_cons_succ] at f0 f1
          go_wp2_with fail
          clear f0 f1
          generalize hW15 : w14.alloc _ = W15
          have hb15 : Below w14.heap.size w14 W15 := by rw [← hW15]; exact bl_a (Below.refl _ _) _
          have M15 : Hid (BK W15 w14.heap.size [.string ⟨x.nm.toArray⟩, .int .i64 x.kd, .int .i64 x.nu] 46) := Lib.hid (by rw [← hW15]; exact BK.new w14 _ _)
          have K15 := Lib.hid (K14.out.below hb15)
          have HC15 := Lib.hid (bl_then HC14.out hb15)
          have HD15 := Lib.hid (bl_then HD14.out hb15)
          clear hW15 hb15
          have hon := HON.out W15 (HR5.out.below HC15.out) x.kd x.nm
          rw [HBK.out.of1, HBK.out.of2] at hon
          refine hon.mono ?_
          rintro e w16 ⟨rfl, hb16⟩
          have HK16 := Lib.hid (K15.out.below hb16)
          have HM16 := Lib.hid (M15.out.below hb16)
          have HC16 := Lib.hid (bl_then HC15.out hb16)
          have HD16 := Lib.hid (bl_then HD15.out hb16)
          have HB16 := Lib.hid (bl_then HB4.out HC16.out)
          have HR16 := Lib.hid (HR5.out.below HC16.out)
          have hlen := nameL_len HBK.out.name
          have hz1 : (⟨x.nm.toArray⟩ : ByteArray).size ≤ 24 := by show x.nm.toArray.size ≤ 24; simpa using hlen
          have f0 := HK16.out.cell 0
          have f1 := HK16.out.cell 1
          have f2 := HK16.out.cell 2
          have g0 := HM16.out.cell 0
          have g1 := HM16.out.cell 1
          have g2 := HM16.out.cell 2
          simp only [List.getElem?_cons_zero, List.getElem?_cons_succ] at f0 f1 f2 g0 g1 g2
          clear hon hb16
          rcases Nat.eq_zero_or_pos p with hp0 | hp0
          · subst hp0
            go_wp2_with fail
            refine wp_region_held_drew (S := fun w' => w'.cell? ⟨wr.heap.size, 0, none⟩ = some (.string ⟨x.nm.toArray⟩) ∧ w'.cell? ⟨wr.heap.size, 1, none⟩ = some (.int .i64 x.kd) ∧ w'.cell? ⟨wr.heap.size, 2, none⟩ = some (.int .i64 x.nu) ∧ w'.cell? ⟨w14.heap.size, 0, none⟩ = some (.string ⟨x.nm.toArray⟩) ∧ w'.cell? ⟨w14.heap.size, 1, none⟩ = some (.int .i64 x.kd) ∧ w'.cell? ⟨w14.heap.size, 2, none⟩ = some (.int .i64 x.nu)) (by kernel_rfl) ⟨f0, f1, f2, g0, g1, g2⟩ (fun hHeld => ?_)
            refine take_at 0 (v := ?_) rfl (by kernel_rfl) (by kernel_rfl) (by kernel_rfl) (fun _ _ _ h => h) (Or.inl ⟨by rfl, ?_⟩) (by assumption) ?_
            rotate_left 1
            · (intro w hSw; (try dsimp only at hSw); go_simp; try with_reducible rfl)
            try simp only [Act.put, List.setIfInBounds_toArray, List.set_cons_zero, List.set_cons_succ]
            refine take_at 1 (v := ?_) rfl (by kernel_rfl) (by kernel_rfl) (by kernel_rfl) (fun _ _ _ h => h) (Or.inl ⟨by rfl, ?_⟩) (by assumption) ?_
            rotate_left 1
            · (intro w hSw; (try dsimp only at hSw); go_simp; try with_reducible rfl)
            try simp only [Act.put, List.setIfInBounds_toArray, List.set_cons_zero, List.set_cons_succ]
            refine take_at 2 (v := ?_) rfl (by kernel_rfl) (by kernel_rfl) (by kernel_rfl) (fun _ _ _ h => h) (Or.inl ⟨by rfl, ?_⟩) (by assumption) ?_
            rotate_left 1
            · (intro w hSw; (try dsimp only at hSw); go_simp; try with_reducible rfl)
            try simp only [Act.put, List.setIfInBounds_toArray, List.set_cons_zero, List.set_cons_succ]
            refine take_at 3 (v := ?_) rfl (by kernel_rfl) (by kernel_rfl) (by kernel_rfl) (fun _ _ _ h => h) (Or.inl ⟨by rfl, ?_⟩) (by assumption) ?_
            rotate_left 1
            · (intro w hSw; (try dsimp only at hSw); go_simp; try with_reducible rfl)
            try simp only [Act.put, List.setIfInBounds_toArray, List.set_cons_zero, List.set_cons_succ]
            refine take_at 4 (v := ?_) rfl (by kernel_rfl) (by kernel_rfl) (by kernel_rfl) (fun _ _ _ h => h) (Or.inl ⟨by rfl, ?_⟩) (by assumption) ?_
            rotate_left 1
            · (intro w hSw; (try dsimp only at hSw); go_simp; try with_reducible rfl)
            try simp only [Act.put, List.setIfInBounds_toArray, List.set_cons_zero, List.set_cons_succ]
            refine take_at 5 (v := ?_) rfl (by kernel_rfl) (by kernel_rfl) (by kernel_rfl) (fun _ _ _ h => h) (Or.inl ⟨by rfl, ?_⟩) (by assumption) ?_
            rotate_left 1
            · (intro w hSw; (try dsimp only at hSw); go_simp; try with_reducible rfl)
            try simp only [Act.put, List.setIfInBounds_toArray, List.set_cons_zero, List.set_cons_succ]
            refine take_at 6 (v := ?_) rfl (by kernel_rfl) (by kernel_rfl) (by kernel_rfl) (fun _ _ _ h => h) (Or.inl ⟨by rfl, ?_⟩) (by assumption) ?_
            rotate_left 1
            · (intro w hSw; (try dsimp only at hSw); go_simp; try with_reducible rfl)
            try simp only [Act.put, List.setIfInBounds_toArray, List.set_cons_zero, List.set_cons_succ]
            refine take_at 7 (v := ?_) rfl (by kernel_rfl) (by kernel_rfl) (by kernel_rfl) (fun _ _ _ h => h) (Or.inl ⟨by rfl, ?_⟩) (by assumption) ?_
            rotate_left 1
            · (intro w hSw; (try dsimp only at hSw); go_simp; try with_reducible rfl)
            try simp only [Act.put, List.setIfInBounds_toArray, List.set_cons_zero, List.set_cons_succ]
            refine take_at 8 (v := ?_) rfl (by kernel_rfl) (by kernel_rfl) (by kernel_rfl) (fun _ _ _ h => h) (Or.inl ⟨by rfl, ?_⟩) (by assumption) ?_
            rotate_left 1
            · (intro w hSw; (try dsimp only at hSw); go_simp; try with_reducible rfl)
            try simp only [Act.put, List.setIfInBounds_toArray, List.set_cons_zero, List.set_cons_succ]
            refine take_at 9 (v := ?_) rfl (by kernel_rfl) (by kernel_rfl) (by kernel_rfl) (fun _ _ _ h => h) (Or.inl ⟨by rfl, ?_⟩) (by assumption) ?_
            rotate_left 1
            · (intro w hSw; (try dsimp only at hSw); go_simp; try with_reducible rfl)
            try simp only [Act.put, List.setIfInBounds_toArray, List.set_cons_zero, List.set_cons_succ]
            refine take_at 10 (v := ?_) rfl (by kernel_rfl) (by kernel_rfl) (by kernel_rfl) (fun _ _ _ h => h) (Or.inl ⟨by rfl, ?_⟩) (by assumption) ?_
            rotate_left 1
            · (intro w hSw; (try dsimp only at hSw); go_simp; try with_reducible rfl)
            try simp only [Act.put, List.setIfInBounds_toArray, List.set_cons_zero, List.set_cons_succ]
            refine take_at 11 (v := ?_) rfl (by kernel_rfl) (by kernel_rfl) (by kernel_rfl) (fun _ _ _ h => h) (Or.inl ⟨by rfl, ?_⟩) (by assumption) ?_
            rotate_left 1
            · (intro w hSw; (try dsimp only at hSw); go_simp; try with_reducible rfl)
            try simp only [Act.put, List.setIfInBounds_toArray, List.set_cons_zero, List.set_cons_succ]
            refine take_at 12 (v := ?_) rfl (by kernel_rfl) (by kernel_rfl) (by kernel_rfl) (fun _ _ _ h => h) (Or.inl ⟨by rfl, ?_⟩) (by assumption) ?_
            rotate_left 1
            · (intro w hSw; (try dsimp only at hSw); go_simp; try with_reducible rfl)
            try simp only [Act.put, List.setIfInBounds_toArray, List.set_cons_zero, List.set_cons_succ]
            refine take_at 13 (v := ?_) rfl (by kernel_rfl) (by kernel_rfl) (by kernel_rfl) (fun _ _ _ h => h) (Or.inl ⟨by rfl, ?_⟩) (by assumption) ?_
            rotate_left 1
            · (intro w hSw; (try dsimp only at hSw); go_simp; try with_reducible rfl)
            try simp only [Act.put, List.setIfInBounds_toArray, List.set_cons_zero, List.set_cons_succ]
            refine take_at 14 (v := ?_) rfl (by kernel_rfl) (by kernel_rfl) (by kernel_rfl) (fun _ _ _ h => h) (Or.inl ⟨by rfl, ?_⟩) (by assumption) ?_
            rotate_left 1
            · (intro w hSw; (try dsimp only at hSw); go_simp; try with_reducible rfl)
            try simp only [Act.put, List.setIfInBounds_toArray, List.set_cons_zero, List.set_cons_succ]
            refine take_at 15 (v := ?_) rfl (by kernel_rfl) (by kernel_rfl) (by kernel_rfl) (fun _ _ _ h => h) (Or.inl ⟨by rfl, ?_⟩) (by assumption) ?_
            rotate_left 1
            · (intro w hSw; (try dsimp only at hSw); go_simp; try with_reducible rfl)
            try simp only [Act.put, List.setIfInBounds_toArray, List.set_cons_zero, List.set_cons_succ]
            refine take_at 16 (v := ?_) rfl (by kernel_rfl) (by kernel_rfl) (by kernel_rfl) (fun _ _ _ h => h) (Or.inl ⟨by rfl, ?_⟩) (by assumption) ?_
            rotate_left 1
            · (intro w hSw; (try dsimp only at hSw); go_simp; try with_reducible rfl)
            try simp only [Act.put, List.setIfInBounds_toArray, List.set_cons_zero, List.set_cons_succ]
            refine take_at 17 (v := ?_) rfl (by kernel_rfl) (by kernel_rfl) (by kernel_rfl) (fun _ _ _ h => h) (Or.inl ⟨by rfl, ?_⟩) (by assumption) ?_
            rotate_left 1
            · (intro w hSw; (try dsimp only at hSw); go_simp; try with_reducible rfl)
            try simp only [Act.put, List.setIfInBounds_toArray, List.set_cons_zero, List.set_cons_succ]
            refine take_at 18 (v := ?_) rfl (by kernel_rfl) (by kernel_rfl) (by kernel_rfl) (fun _ _ _ h => h) (Or.inl ⟨by rfl, ?_⟩) (by assumption) ?_
            rotate_left 1
            · (intro w hSw; (try dsimp only at hSw); go_simp; try with_reducible rfl)
            try simp only [Act.put, List.setIfInBounds_toArray, List.set_cons_zero, List.set_cons_succ]
            refine take_at 19 (v := ?_) rfl (by kernel_rfl) (by kernel_rfl) (by kernel_rfl) (fun _ _ _ h => h) (Or.inl ⟨by rfl, ?_⟩) (by assumption) ?_
            rotate_left 1
            · (intro w hSw; (try dsimp only at hSw); go_simp; try with_reducible rfl)
            try simp only [Act.put, List.setIfInBounds_toArray, List.set_cons_zero, List.set_cons_succ]
            refine take_at 20 (v := ?_) rfl (by kernel_rfl) (by kernel_rfl) (by kernel_rfl) (fun _ _ _ h => h) (Or.inl ⟨by rfl, ?_⟩) (by assumption) ?_
            rotate_left 1
            · (intro w hSw; (try dsimp only at hSw); go_simp; try with_reducible rfl)
            try simp only [Act.put, List.setIfInBounds_toArray, List.set_cons_zero, List.set_cons_succ]
            refine take_at 21 (v := ?_) rfl (by kernel_rfl) (by kernel_rfl) (by kernel_rfl) (fun _ _ _ h => h) (Or.inl ⟨by rfl, ?_⟩) (by assumption) ?_
            rotate_left 1
            · (intro w hSw; (try dsimp only at hSw); go_simp; try with_reducible rfl)
            try simp only [Act.put, List.setIfInBounds_toArray, List.set_cons_zero, List.set_cons_succ]
            refine take_at 22 (v := ?_) rfl (by kernel_rfl) (by kernel_rfl) (by kernel_rfl) (fun _ _ _ h => h) (Or.inl ⟨by rfl, ?_⟩) (by assumption) ?_
            rotate_left 1
            · (intro w hSw; (try dsimp only at hSw); go_simp; try with_reducible rfl)
            try simp only [Act.put, List.setIfInBounds_toArray, List.set_cons_zero, List.set_cons_succ]
            refine take_at 24 (v := ?_) rfl (by kernel_rfl) (by kernel_rfl) (by kernel_rfl) (fun _ _ _ h => h) (Or.inl ⟨by rfl, ?_⟩) (by assumption) ?_
            rotate_left 1
            · (intro w hSw; (try dsimp only at hSw); go_simp; try with_reducible rfl)
            try simp only [Act.put, List.setIfInBounds_toArray, List.set_cons_zero, List.set_cons_succ]
            refine take_at 25 (v := ?_) rfl (by kernel_rfl) (by kernel_rfl) (by kernel_rfl) (fun _ _ _ h => h) (Or.inl ⟨by rfl, ?_⟩) (by assumption) ?_
            rotate_left 1
            · (intro w hSw; (try dsimp only at hSw); go_simp; try with_reducible rfl)
            try simp only [Act.put, List.setIfInBounds_toArray, List.set_cons_zero, List.set_cons_succ]
            refine wpAnyH_ready (rs := [23]) (by kernel_rfl) (by simp) ?_
            refine AllReadyH.cons rfl (fun K hK => ?_) AllReadyH.nil
            go_simp
            (go_at_call 20; refine (HTX.out _ (HR16.out.below (by go_grown)) x.kd x.nu).mono ?_; rw [HBK.out.text]; rintro e w17 ⟨rfl, hb17⟩; have HW17 : Hid (Below w16.heap.size w16 w17) := Lib.hid (Below.trans (by go_grown) (hb17.mono (by simp))); have HK17 := Lib.hid (HK16.out.below HW17.out); have HM17 := Lib.hid (HM16.out.below HW17.out); clear hb17)
            refine hK.out _ _ ⟨(HK17.out.cell 0), (HK17.out.cell 1), (HK17.out.cell 2), (HM17.out.cell 0), (HM17.out.cell 1), (HM17.out.cell 2)⟩ (fun hHeld => ?_)
            clear hK K
            try simp only [Act.put, List.setIfInBounds_toArray, List.set_cons_zero, List.set_cons_succ]
            refine take_at 26 (v := ?_) rfl (by kernel_rfl) (by kernel_rfl) (by kernel_rfl) (fun _ _ _ h => h) (Or.inl ⟨by rfl, ?_⟩) (by assumption) ?_
            rotate_left 1
            · (intro w hSw; (try dsimp only at hSw); go_simp; try with_reducible rfl)
            try simp only [Act.put, List.setIfInBounds_toArray, List.set_cons_zero, List.set_cons_succ]
            refine take_at 27 (v := ?_) rfl (by kernel_rfl) (by kernel_rfl) (by kernel_rfl) (fun _ _ _ h => h) (Or.inl ⟨by rfl, ?_⟩) (by assumption) ?_
            rotate_left 1
            · (intro w hSw; (try dsimp only at hSw); go_simp; try with_reducible rfl)
            try simp only [Act.put, List.setIfInBounds_toArray, List.set_cons_zero, List.set_cons_succ]
            refine take_at 28 (v := ?_) rfl (by kernel_rfl) (by kernel_rfl) (by kernel_rfl) (fun _ _ _ h => h) (Or.inl ⟨by rfl, ?_⟩) (by assumption) ?_
            rotate_left 1
            · (intro w hSw; (try dsimp only at hSw); go_simp; try with_reducible rfl)
            try simp only [Act.put, List.setIfInBounds_toArray, List.set_cons_zero, List.set_cons_succ]
            refine take_at 29 (v := ?_) rfl (by kernel_rfl) (by kernel_rfl) (by kernel_rfl) (fun _ _ _ h => h) (Or.inl ⟨by rfl, ?_⟩) (by assumption) ?_
            rotate_left 1
            · (intro w hSw; (try dsimp only at hSw); go_simp; try with_reducible rfl)
            try simp only [Act.put, List.setIfInBounds_toArray, List.set_cons_zero, List.set_cons_succ]
            refine take_at 30 (v := ?_) rfl (by kernel_rfl) (by kernel_rfl) (by kernel_rfl) (fun _ _ _ h => h) (Or.inl ⟨by rfl, ?_⟩) (by assumption) ?_
            rotate_left 1
            · (intro w hSw; (try dsimp only at hSw); go_simp; try with_reducible rfl)
            try simp only [Act.put, List.setIfInBounds_toArray, List.set_cons_zero, List.set_cons_succ]
            refine take_at 31 (v := ?_) rfl (by kernel_rfl) (by kernel_rfl) (by kernel_rfl) (fun _ _ _ h => h) (Or.inl ⟨by rfl, ?_⟩) (by assumption) ?_
            rotate_left 1
            · (intro w hSw; (try dsimp only at hSw); go_simp; try with_reducible rfl)
            try simp only [Act.put, List.setIfInBounds_toArray, List.set_cons_zero, List.set_cons_succ]
            refine take_at 32 (v := undef) rfl (by kernel_rfl) (by kernel_rfl) (by kernel_rfl) (fun _ _ _ h => h) (Or.inr ⟨by rfl, rfl⟩) (by assumption) ?_
            try simp only [Act.put, List.setIfInBounds_toArray, List.set_cons_zero, List.set_cons_succ]
            refine take_at 33 (v := undef) rfl (by kernel_rfl) (by kernel_rfl) (by kernel_rfl) (fun _ _ _ h => h) (Or.inr ⟨by rfl, rfl⟩) (by assumption) ?_
            try simp only [Act.put, List.setIfInBounds_toArray, List.set_cons_zero, List.set_cons_succ]
            refine take_at 34 (v := undef) rfl (by kernel_rfl) (by kernel_rfl) (by kernel_rfl) (fun _ _ _ h => h) (Or.inr ⟨by rfl, rfl⟩) (by assumption) ?_
            try simp only [Act.put, List.setIfInBounds_toArray, List.set_cons_zero, List.set_cons_succ]
            refine take_at 35 (v := undef) rfl (by kernel_rfl) (by kernel_rfl) (by kernel_rfl) (fun _ _ _ h => h) (Or.inr ⟨by rfl, rfl⟩) (by assumption) ?_
            try simp only [Act.put, List.setIfInBounds_toArray, List.set_cons_zero, List.set_cons_succ]
            refine take_at 36 (v := undef) rfl (by kernel_rfl) (by kernel_rfl) (by kernel_rfl) (fun _ _ _ h => h) (Or.inr ⟨by rfl, rfl⟩) (by assumption) ?_
            try simp only [Act.put, List.setIfInBounds_toArray, List.set_cons_zero, List.set_cons_succ]
            refine take_at 37 (v := undef) rfl (by kernel_rfl) (by kernel_rfl) (by kernel_rfl) (fun _ _ _ h => h) (Or.inr ⟨by rfl, rfl⟩) (by assumption) ?_
            try simp only [Act.put, List.setIfInBounds_toArray, List.set_cons_zero, List.set_cons_succ]
            refine take_at 38 (v := undef) rfl (by kernel_rfl) (by kernel_rfl) (by kernel_rfl) (fun _ _ _ h => h) (Or.inr ⟨by rfl, rfl⟩) (by assumption) ?_
            try simp only [Act.put, List.setIfInBounds_toArray, List.set_cons_zero, List.set_cons_succ]
            refine take_at 39 (v := undef) rfl (by kernel_rfl) (by kernel_rfl) (by kernel_rfl) (fun _ _ _ h => h) (Or.inr ⟨by rfl, rfl⟩) (by assumption) ?_
            try simp only [Act.put, List.setIfInBounds_toArray, List.set_cons_zero, List.set_cons_succ]
            refine take_at 40 (v := undef) rfl (by kernel_rfl) (by kernel_rfl) (by kernel_rfl) (fun _ _ _ h => h) (Or.inr ⟨by rfl, rfl⟩) (by assumption) ?_
            try simp only [Act.put, List.setIfInBounds_toArray, List.set_cons_zero, List.set_cons_succ]
            refine take_at 41 (v := ?_) rfl (by kernel_rfl) (by kernel_rfl) (by kernel_rfl) (fun _ _ _ h => h) (Or.inl ⟨by rfl, ?_⟩) (by assumption) ?_
            rotate_left 1
            · (intro w hSw; (try dsimp only at hSw); go_simp; try with_reducible rfl)
            try simp only [Act.put, List.setIfInBounds_toArray, List.set_cons_zero, List.set_cons_succ]
            refine take_at 42 (v := ?_) rfl (by kernel_rfl) (by kernel_rfl) (by kernel_rfl) (fun _ _ _ h => h) (Or.inl ⟨by rfl, ?_⟩) (by assumption) ?_
            rotate_left 1
            · (intro w hSw; (try dsimp only at hSw); go_simp; try with_reducible rfl)
            try simp only [Act.put, List.setIfInBounds_toArray, List.set_cons_zero, List.set_cons_succ]
            refine wpAnyH_done (by kernel_rfl) ?_ _
            go_wp2_with (first
              | (go_at_call 22; refine (letIsName _ _ (Nat.le_trans hz1 (by decide))).mono ?_; rw [isNameS_mk, HBK.out.name]; rintro e w18 ⟨rfl, rfl⟩)
              | (go_at_call 23; refine (lexKey _ m _ (Nat.le_trans hz1 (by decide)) (hm_below HM.out (bl_then HB16.out HW17.out))).mono ?_; rw [show keyL (⟨x.nm.toArray⟩ : ByteArray).data.toList = keyL x.nm from rfl, HBK.out.key]; rintro e w18 ⟨rfl, rfl⟩))
            go_roundw
            case rel => exact ⟨1, by go_num, by omega, Lib.hid (bl_then HC16.out HW17.out)⟩
            case measure => simp [intOf]; omega
          · obtain ⟨q, hq⟩ : ∃ q, q + 1 = p := ⟨p - 1, by omega⟩
            obtain ⟨y, hy0, hy1⟩ := HP13.out q hq
            have hblt16 : b < w16.heap.size := Nat.lt_of_lt_of_le hblt13 (HD16.out.size)
            have h0 := (HD16.out.cell (p := ⟨b, off + q * 3, none⟩) hblt13).trans hy0
            have hsub : IntKind.i64.wrap ((p : Int) - 1) = (q : Int) := by rw [IntWalk.i64_in _ (by omega)]; omega
            have hk0 : (0 : Int) ≤ (q : Int) := by omega
            have hk1 : (q : Int) < (T.length : Int) := by omega
            have hk2 : (0 : Int) < (p : Int) := by omega
            clear hy0 HP13
            go_wp2_with fail
            go_region_held3 (fun w' => w'.cell? ⟨wr.heap.size, 0, none⟩ = some (.string ⟨x.nm.toArray⟩) ∧ w'.cell? ⟨wr.heap.size, 1, none⟩ = some (.int .i64 x.kd) ∧ w'.cell? ⟨wr.heap.size, 2, none⟩ = some (.int .i64 x.nu) ∧ w'.cell? ⟨w14.heap.size, 0, none⟩ = some (.string ⟨x.nm.toArray⟩) ∧ w'.cell? ⟨w14.heap.size, 1, none⟩ = some (.int .i64 x.kd) ∧ w'.cell? ⟨w14.heap.size, 2, none⟩ = some (.int .i64 x.nu) ∧ w'.cell? ⟨b, off + q * 3, none⟩ = some (.string ⟨y.nm.toArray⟩))
              (first
                | (go_split_ands; exact ⟨(HK17.out.cell 0), (HK17.out.cell 1), (HK17.out.cell 2), (HM17.out.cell 0), (HM17.out.cell 1), (HM17.out.cell 2), (HW17.out.cell (p := ⟨b, off + q * 3, none⟩) hblt16).trans h0⟩)
                | (go_keep; done))
              (first
                | (go_at_call 20; refine (HTX.out _ (HR16.out.below (by go_grown)) x.kd x.nu).mono ?_; rw [HBK.out.text]; rintro e w17 ⟨rfl, hb17⟩; have HW17 : Hid (Below w16.heap.size w16 w17) := Lib.hid (Below.trans (by go_grown) (hb17.mono (by simp))); have HK17 := Lib.hid (HK16.out.below HW17.out); have HM17 := Lib.hid (HM16.out.below HW17.out); clear hb17))
            go_wp2_with (first
              | (go_at_call 22; refine (letIsName _ _ (Nat.le_trans hz1 (by decide))).mono ?_; rw [isNameS_mk, HBK.out.name]; rintro e w18 ⟨rfl, rfl⟩)
              | (go_at_call 23; refine (lexKey _ m _ (Nat.le_trans hz1 (by decide)) (hm_below HM.out (bl_then HB16.out HW17.out))).mono ?_; rw [show keyL (⟨x.nm.toArray⟩ : ByteArray).data.toList = keyL x.nm from rfl, HBK.out.key]; rintro e w18 ⟨rfl, rfl⟩))
            go_roundw
            case rel => exact ⟨p + 1, by go_num, by omega, Lib.hid (bl_then HC16.out HW17.out)⟩
            case measure => simp [intOf]; omega
        · have hpe : p = T.length := by omega
          have HKr := Lib.hid (HK4.out.below hB.out)
          have HBr := Lib.hid (bl_then HB4.out hB.out)
          have htl := HTL.out
          have kd0 := HKr.out.cell 0
          have kd1 := HKr.out.cell 1
          have kd2 := HKr.out.cell 2
          have kd3 := HKr.out.cell 3
          have kd4 := HKr.out.cell 4
          have kd5 := HKr.out.cell 5
          have kd6 := HKr.out.cell 6
          simp only [declC, List.getElem?_cons_zero, List.getElem?_cons_succ] at kd0 kd1 kd2 kd3 kd4 kd5 kd6
          go_wp2_with fail
          refine (lawCount _ _ _ _ _ _ _ d wr (HS.out.below HBr.out) hd).mono ?_
          rintro e w5 ⟨rfl, hb5⟩
          have HB5 := Lib.hid (bl_then HBr.out hb5)
          have hsum : IntKind.i64.wrap ((cntD d : Int) + 4) = (cntD d : Int) + 4 := IntWalk.i64_in _ (by omega)
          clear hb5
          go_wp2_with (go_at_call 9; refine (awake15 m _ (hm_below HM.out HB5.out)).mono ?_; rintro e w15 ⟨rfl, hb15⟩)
          go_ret
          exact ⟨rfl, bl_then HB5.out hb15⟩
end Go.Proofs.Ytdommneciojiaaa
