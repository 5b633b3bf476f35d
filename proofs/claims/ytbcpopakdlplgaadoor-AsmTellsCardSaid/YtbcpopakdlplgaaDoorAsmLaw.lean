/- Walks of clewlaw30.AsmBack, AsmAgain. -/
import Derived.Test.YtbcpopakdlplgaaDoorAsmLaw0
namespace Go.Proofs.YtbcpopakdlplgaaDoor
open Go.RowKit Go.PlainAid Go.Maps
set_option linter.unusedVariables false
set_option linter.unusedSimpArgs false

abbrev Tab (w : World) : Prop := Lib.TabIs Tryd.prog w "internal/strconv.uint64pow10" .u64 Lib.pow10Tab
set_option maxRecDepth 100000 in
set_option maxHeartbeats 4000000 in
theorem walkBack (v : Value) (l : List IN) (w : World) (hr : Reads Cd.ins.seq w v l) (htab : Tab w) : Calls Tryd.prog 6 #[v] w fun e w' => e = .returned (.bool true) ∧ Below w.heap.size w w' := by
  have HTab := Lib.hid htab
  have HAW := Lib.hid (fun w' (hb : Below w.heap.size w w') => awakeC w' (tab_belowA HTab.out hb))
  obtain ⟨a, c, hv, hcap, hm⟩ := hr.len
  subst hv
  have HR := Lib.hid hr
  obtain ⟨n, hn⟩ : ∃ n, l.length = n := ⟨_, rfl⟩
  have HN := Lib.hid hn
  rw [hn] at HR hcap hm ⊢
  unfold maxLen at hm
  clear hr hn htab
  by_cases hbig : 150 < n
  · go_enter Tryd.func6, Tryd.ntmps6
    go_wp2_with (go_at_call 10; refine (HAW.out _ (Below.refl _ _)).mono ?_; rintro e w1 ⟨rfl, hb1⟩)
    go_ret
    exact ⟨rfl, hb1⟩
  · by_cases hw : wrongP l = 0
    · have HAS := Lib.hid (asmOk _ l w HR.out (by rw [HN.out]; omega) hw)
      clear hw
      go_enter Tryd.func6, Tryd.ntmps6
      go_wp2_with fail
      refine HAS.out.mono ?_
      rintro e w1 ⟨b, v1, hb, rfl, ho1, hb1⟩
      have hbl := code_len3 (by rw [HN.out]; omega) hb
      have HR1 := Lib.hid (OwB.reads ho1 (by unfold maxLen; omega))
      have hdis := back_law (by rw [HN.out]; omega) hb
      have HDS := Lib.hid (disC _ _ w1 HR1.out (by omega))
      rw [hdis] at HDS
      have HI := Lib.hid (dis_inw (by omega) hdis)
      have HNL : Hid ((normP l).length ≤ n) := Lib.hid (by rw [← HN.out]; exact norm_len l)
      have HB1 := Lib.hid hb1
      clear ho1 hb hdis hb1 hbl
      go_wp2_with fail
      refine HDS.out.mono ?_
      rintro e w2 ⟨hb2, v2, rfl, ho2⟩
      have HR2 := Lib.hid (OwI.reads ho2 (by have := HNL.out; unfold maxLen; omega) HI.out.1)
      have HB2 := Lib.hid (bl_thenA HB1.out hb2)
      clear ho2 hb2
      go_wp2_with fail
      refine (normC _ l _ (HR.out.below HB2.out) (by rw [HN.out]; omega)).mono ?_
      rintro e w3 ⟨v3, rfl, ho3, hb3⟩
      have HR3 := Lib.hid (OwI.reads ho3 (by have := HNL.out; unfold maxLen; omega) HI.out.1)
      have H23 := Lib.hid hb3
      clear ho3 hb3
      go_wp2_with fail
      refine (sameC _ _ _ _ (HR2.out.below H23.out) HR3.out).mono ?_
      rintro e w4 ⟨rfl, q, rfl⟩
      have HB4 := Lib.hid (bl_drewN (bl_thenA HB2.out H23.out) q)
      go_wp2_with (go_at_call 10; refine (HAW.out _ HB4.out).mono ?_; rintro e w5 ⟨rfl, hb5⟩)
      go_ret
      exact ⟨rfl, bl_thenA HB4.out hb5⟩
    · have HAS := Lib.hid (asmBad _ l w HR.out (by rw [HN.out]; omega) _ rfl hw)
      obtain ⟨x, hx⟩ : ∃ x, wrongP l = x := ⟨_, rfl⟩
      rw [hx] at HAS hw
      have hne : (x != 0) = true := by simpa using hw
      clear hx
      go_enter Tryd.func6, Tryd.ntmps6
      go_wp2_with (first | (go_at_call 14; refine HAS.out.mono ?_; rintro e w1 ⟨rfl, hb1⟩; have HB1 := Lib.hid hb1; clear hb1) | (go_at_call 10; refine (HAW.out _ HB1.out).mono ?_; rintro e w5 ⟨rfl, hb5⟩) | (fail))
      go_ret
      exact ⟨rfl, bl_thenA HB1.out hb5⟩
set_option maxRecDepth 100000 in
set_option maxHeartbeats 4000000 in
theorem walkAgain (v : Value) (b : List UInt8) (w : World) (hr : Reads Cd.byte.seq w v b) (htab : Tab w) : Calls Tryd.prog 7 #[v] w fun e w' => e = .returned (.bool true) ∧ Below w.heap.size w w' := by
  have HTab := Lib.hid htab
  have HAW := Lib.hid (fun w' (hb : Below w.heap.size w w') => awakeC w' (tab_belowA HTab.out hb))
  obtain ⟨a, c, hv, hcap, hm⟩ := hr.len
  subst hv
  have HR := Lib.hid hr
  obtain ⟨n, hn⟩ : ∃ n, b.length = n := ⟨_, rfl⟩
  have HN := Lib.hid hn
  rw [hn] at HR hcap hm ⊢
  unfold maxLen at hm
  clear hr hn htab
  by_cases hbig : 300 < n
  · go_enter Tryd.func7, Tryd.ntmps7
    go_wp2_with (go_at_call 10; refine (HAW.out _ (Below.refl _ _)).mono ?_; rintro e w1 ⟨rfl, hb1⟩)
    go_ret
    exact ⟨rfl, hb1⟩
  · have HDS := Lib.hid (disC _ b w HR.out (by rw [HN.out]; omega))
    cases hd : disP b with
    | inl x =>
      have hx0 : x ≠ 0 := by
        unfold disP at hd
        split at hd
        · rename_i e he
          have h1 := Sum.inl.inj hd
          subst h1
          exact decAll_err _ _ _ he
        · split at hd
          · cases hd
          · have := Sum.inl.inj hd; omega
      have hne : (x != 0) = true := by simpa using hx0
      rw [hd] at HDS
      clear hd
      go_enter Tryd.func7, Tryd.ntmps7
      go_wp2_with (first | (go_at_call 16; refine HDS.out.mono ?_; rintro e w1 ⟨hb1, rfl⟩; have HB1 := Lib.hid hb1; clear hb1) | (go_at_call 10; refine (HAW.out _ HB1.out).mono ?_; rintro e w5 ⟨rfl, hb5⟩) | (fail))
      go_ret
      exact ⟨rfl, bl_thenA HB1.out hb5⟩
    | inr l =>
      rw [hd] at HDS
      obtain ⟨d, hd1, hd2, hd3⟩ := again_law (by rw [HN.out]; omega) hd
      have HI := Lib.hid (dis_inw (by rw [HN.out]; omega) hd)
      have hll : l.length ≤ 2 * n + 1 := by have := HI.out.2; rw [HN.out] at this; exact this
      rw [HN.out] at hd2
      obtain ⟨m, hm1⟩ : ∃ m, d.length = m := ⟨_, rfl⟩
      have HM := Lib.hid hm1
      rw [hm1] at hd2
      have hw0 : wrongP l = 0 := by
        unfold asmP at hd1
        split at hd1
        · assumption
        · cases hd1
      have HW0 := Lib.hid hw0
      have HD1 := Lib.hid hd1
      have HD3 := Lib.hid hd3
      clear hd hm1 hw0 hd1 hd3
      go_enter Tryd.func7, Tryd.ntmps7
      go_wp2_with fail
      refine HDS.out.mono ?_
      rintro e w1 ⟨hb1, v1, rfl, ho1⟩
      have HR1 := Lib.hid (OwI.reads ho1 (by unfold maxLen; omega) HI.out.1)
      have HB1 := Lib.hid hb1
      clear ho1 hb1
      go_wp2_with fail
      refine (asmOk _ l _ HR1.out (by omega) HW0.out).mono ?_
      rintro e w2 ⟨d', v2, hd', rfl, ho2, hb2⟩
      have hdd : d' = d := by rw [HD1.out] at hd'; exact (Sum.inr.inj hd').symm
      subst hdd
      have HR2 := Lib.hid (OwB.reads ho2 (by rw [HM.out]; unfold maxLen; omega))
      obtain ⟨a2, c2, hv2⟩ := ow_shape ho2
      rw [HM.out] at hv2
      subst hv2
      have H12 := Lib.hid hb2
      clear ho2 hb2 hd'
      have HDS2 := Lib.hid (disC _ _ w2 HR2.out (by rw [HM.out]; omega))
      rw [HD3.out] at HDS2
      go_wp2_with fail
      refine HDS2.out.mono ?_
      rintro e w3 ⟨hb3, v3, rfl, ho3⟩
      have HR3 := Lib.hid (OwI.reads ho3 (by unfold maxLen; omega) HI.out.1)
      have H13 := Lib.hid (bl_thenA H12.out hb3)
      clear ho3 hb3
      go_wp2_with fail
      refine (sameC _ _ _ _ (HR1.out.below H13.out) HR3.out).mono ?_
      rintro e w4 ⟨rfl, q, rfl⟩
      have HB4 := Lib.hid (bl_drewN (bl_thenA HB1.out H13.out) q)
      go_wp2_with (go_at_call 10; refine (HAW.out _ HB4.out).mono ?_; rintro e w5 ⟨rfl, hb5⟩)
      go_ret
      exact ⟨rfl, bl_thenA HB4.out hb5⟩
end Go.Proofs.YtbcpopakdlplgaaDoor
