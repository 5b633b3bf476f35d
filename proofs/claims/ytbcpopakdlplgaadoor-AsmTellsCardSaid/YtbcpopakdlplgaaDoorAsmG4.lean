/- The walk of AsmTells. -/
import Derived.Test.YtbcpopakdlplgaaDoorAsmG3
import Derived.Test.YtbcpopakdlplgaaDoorAsmLaw
namespace Go.Proofs.YtbcpopakdlplgaaDoor
open Go.RowKit Go.PlainAid Go.Maps
set_option linter.unusedVariables false
set_option linter.unusedSimpArgs false

set_option maxRecDepth 100000 in
set_option maxHeartbeats 4000000 in
theorem walkTells (v : Value) (l : List IN) (w : World) (hr : Reads Cd.ins.seq w v l) (htab : Tab w) : Calls Tryd.prog 4 #[v] w fun e w' => e = .returned (.bool true) ∧ Below w.heap.size w w' := by
  have HTab := Lib.hid htab
  have HAW := Lib.hid (fun w' (hb : Below w.heap.size w w') => awakeC w' (tab_belowA HTab.out hb))
  obtain ⟨a, c, hv, hcap, hm⟩ := hr.len
  subst hv
  have HR := Lib.hid hr
  obtain ⟨n, hn⟩ : ∃ n, l.length = n := ⟨_, rfl⟩
  have HN := Lib.hid hn
  rw [hn] at HR hcap hm ⊢
  unfold maxLen at hm
  clear hr hn htab
  by_cases hbig : 150 < n
  · go_enter Tryd.func4, Tryd.ntmps4
    go_wp2_with (go_at_call 10; refine (HAW.out _ (Below.refl _ _)).mono ?_; rintro e w1 ⟨rfl, hb1⟩)
    go_ret
    exact ⟨rfl, hb1⟩
  · by_cases hw : wrongP l = 0
    · have HAS := Lib.hid (asmOk _ l w HR.out (by rw [HN.out]; omega) hw)
      have HRA := Lib.hid (fun w' h => refAsmOk (.slice a n c) l w' h (by rw [HN.out]; omega) hw)
      clear hw
      go_enter Tryd.func4, Tryd.ntmps4
      go_wp2_with fail
      refine HAS.out.mono ?_
      rintro e w1 ⟨b, v1, hb, rfl, ho1, hb1⟩
      have hbl := code_len3 (by rw [HN.out]; omega) hb
      have HR1 := Lib.hid (OwB.reads ho1 (by unfold maxLen; omega))
      have HB1 := Lib.hid hb1
      have HBB := Lib.hid hb
      clear ho1 hb hb1
      go_wp2_with fail
      refine (HRA.out _ (HR.out.below HB1.out)).mono ?_
      rintro e w2 ⟨b', v2, hb', rfl, ho2, hb2⟩
      have hbb : b' = b := by rw [HBB.out] at hb'; exact (Sum.inr.inj hb').symm
      subst hbb
      have hcv1 := str_reads (HR1.out.below hb2)
      have hcv2 := str_reads (OwB.reads ho2 (by unfold maxLen; omega))
      have HB2 := Lib.hid (bl_thenA HB1.out hb2)
      clear ho2 hb' hbl hb2
      obtain ⟨st, hst⟩ : ∃ st, mkB b' = st := ⟨_, rfl⟩
      rw [hst] at hcv1 hcv2
      clear hst
      go_wp2_with (first | (go_at_call 10; refine (HAW.out _ HB2.out).mono ?_; rintro e w5 ⟨rfl, hb5⟩) | (fail))
      go_ret
      exact ⟨rfl, bl_thenA HB2.out hb5⟩
    · have HAS := Lib.hid (asmBad _ l w HR.out (by rw [HN.out]; omega) _ rfl hw)
      have HRA := Lib.hid (fun w' h => refAsmBad (.slice a n c) l w' h (by rw [HN.out]; omega) _ rfl hw)
      obtain ⟨x, hx⟩ : ∃ x, wrongP l = x := ⟨_, rfl⟩
      rw [hx] at HAS HRA
      clear hx hw
      have hcv := fun w' => str_reads (OwB.reads (OwB.nil w' 0) (by unfold maxLen; simp))
      go_enter Tryd.func4, Tryd.ntmps4
      go_wp2_with (first | (go_at_call 14; refine HAS.out.mono ?_; rintro e w1 ⟨rfl, hb1⟩; have HB1 := Lib.hid hb1; clear hb1) | (go_at_call 15; refine (HRA.out _ (HR.out.below HB1.out)).mono ?_; rintro e w2 ⟨rfl, hb2⟩; have HB2 := Lib.hid (bl_thenA HB1.out hb2); clear hb2) | (go_at_call 10; refine (HAW.out _ HB2.out).mono ?_; rintro e w5 ⟨rfl, hb5⟩) | (fail))
      go_ret
      exact ⟨rfl, bl_thenA HB2.out hb5⟩
end Go.Proofs.YtbcpopakdlplgaaDoor
